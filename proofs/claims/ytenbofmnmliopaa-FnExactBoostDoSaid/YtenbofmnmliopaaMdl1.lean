/- Models of the functions, or plain laws about them; each theorem states its own conditions. -/
import Derived.Test.YtenbofmnmliopaaMdlA
import Derived.Test.YtenbofmnmliopaaL3
import Derived.Test.YtenbofmnmliopaaProg
import Derived.KernelRfl
set_option linter.unusedVariables false
set_option linter.unusedSimpArgs false
open Go.Proofs
namespace X
open PM
set_option maxRecDepth 100000
set_option maxHeartbeats 4000000
abbrev spec_SlotPut_T := (List Int) → (Int) → (Int) → ((List Int) → (Int) → (Bool) → PM.R) → PM.R
noncomputable def spec_SlotPut_w (c : spec_SlotPut_T) (ds : List PM.V) (k : PM.V → PM.R) : PM.R :=
  match ds with
  | [.arr (.ints 3 .i64 __), .int .i64 a, .int .i64 r] => c __ a r (fun r0 r1 r2 => k (.tup [.arr (.ints 3 .i64 r0), .int .i64 r1, .bool r2]))
  | _ => none
noncomputable def spec_SlotPut_l0 (A : PM.Prims) (c_70 : spec_l15Key_T) (c_20 : spec_BucketOf_T) (c_72 : spec_l3Val_T) (c_75 : spec_l15Slot_T) (c_30 : spec_SlotsOk_T) (c_79 : spec_l15At_T) (c_83 : spec_l15Ints_T) : Nat → (List Int) → (Int) → (Int) → (Int) → (List Int) → ((Int) → (Bool) → (List Int) → PM.R) → ((List Int) → PM.R) → PM.R
  | 0, _, _, _, _, _, _, _ => none
  | n + 1, l9, key10, v11, i12, o013, kret_0, kx0_0 =>
    bif (A.lt i12 (A.ilen l9)) then
      bif (A.inb i12 (A.ilen l9)) then
        bif (A.eq (A.iget l9 i12) 0) then
          bif (A.inb i12 (A.ilen o013)) then
            kret_0 0 true (A.iset o013 i12 (A.add .i64 (A.add .i64 1 (A.mul .i64 key10 65536)) v11))
          else
            none
        else
          spec_SlotPut_l0 A c_70 c_20 c_72 c_75 c_30 c_79 c_83 n l9 key10 v11 (A.add .i64 i12 1) o013 kret_0 kx0_0
      else
        none
    else
      kx0_0 o013
noncomputable def spec_SlotPut_f (A : PM.Prims) (c_70 : spec_l15Key_T) (c_20 : spec_BucketOf_T) (c_72 : spec_l3Val_T) (c_75 : spec_l15Slot_T) (c_30 : spec_SlotsOk_T) (c_79 : spec_l15At_T) (c_83 : spec_l15Ints_T) (__ : List Int) (a : Int) (r : Int) (k : (List Int) → (Int) → (Bool) → PM.R) : PM.R :=
  c_83 __ (fun r1 =>
    c_30 __ (fun r2 =>
      bif (A.not r2) then
        k r1 0 false
      else
        c_70 a (fun r3 =>
          bif (A.not r3) then
            k r1 0 false
          else
            c_72 r (fun r4 =>
              bif (A.not r4) then
                k r1 0 false
              else
                c_79 __ a (fun r5 =>
                  bif (A.le 0 r5) then
                    bif (A.inb r5 (A.ilen __)) then
                      c_75 (A.iget __ r5) (fun r6 r7 =>
                        bif (A.inb r5 (A.ilen r1)) then
                          k (A.iset r1 r5 (A.add .i64 (A.add .i64 1 (A.mul .i64 a 65536)) r)) (A.add .i64 1 r7) true
                        else
                          none)
                    else
                      none
                  else
                    c_20 a (fun r8 =>
                      spec_SlotPut_l0 A c_70 c_20 c_72 c_75 c_30 c_79 c_83 A.fuel __ a r (A.mul .i64 4 r8) r1 (fun t71418 t81519 o01620 =>
                        k o01620 t71418 t81519) (fun o01721 =>
                        k o01721 0 false)))))))
noncomputable def spec_SlotPut (A : PM.Prims) : spec_SlotPut_T := spec_SlotPut_f A (spec_l15Key A) (spec_BucketOf A) (spec_l3Val A) (spec_l15Slot A) (spec_SlotsOk A) (spec_l15At A) (spec_l15Ints A)
noncomputable def spec_SlotPut_L (A : PM.Prims) (c_70 : spec_l15Key_T) (c_20 : spec_BucketOf_T) (c_72 : spec_l3Val_T) (c_75 : spec_l15Slot_T) (c_30 : spec_SlotsOk_T) (c_79 : spec_l15At_T) (c_83 : spec_l15Ints_T) (n : Nat) : PM.Lam := fun cur σ K =>
  match cur, σ, K with
  | 0, ⟨[(0, .arr (.ints 3 .i64 l9)), (1, .int .i64 key10), (2, .int .i64 v11), (9, .sref 0), (13, .int .i64 i12)], [(0, .arr true (.ints 3 .i64 o013))]⟩, K => spec_SlotPut_l0 A c_70 c_20 c_72 c_75 c_30 c_79 c_83 n l9 key10 v11 i12 o013 (fun t714 t815 o016 => K .ret ⟨[(6, .sref 0), (7, .int .i64 t714), (8, .bool t815)], [(0, .arr true (.ints 3 .i64 o016))]⟩) (fun o017 => K (.exit 0) ⟨[(9, .sref 0)], [(0, .arr true (.ints 3 .i64 o017))]⟩)
  | _, _, _ => none
noncomputable def spec_SlotPut_E (A : PM.Prims) (c_70 : spec_l15Key_T) (c_20 : spec_BucketOf_T) (c_72 : spec_l3Val_T) (c_75 : spec_l15Slot_T) (c_30 : spec_SlotsOk_T) (c_79 : spec_l15At_T) (c_83 : spec_l15Ints_T) : PM.Env := ⟨[(70, ⟨[], spec_l15Key_w c_70⟩), (20, ⟨[], spec_BucketOf_w c_20⟩), (72, ⟨[], spec_l3Val_w c_72⟩), (75, ⟨[], spec_l15Slot_w c_75⟩), (30, ⟨[], spec_SlotsOk_w c_30⟩), (79, ⟨[], spec_l15At_w c_79⟩), (83, ⟨[], spec_l15Ints_w c_83⟩)], [], [(0, [0, 1, 2, 9, 13], [6, 7, 8, 9])], [(0, [0, 1, 2]), (1, [0, 1, 2, 9]), (2, [0, 1, 2, 9, 28]), (3, [6, 7, 8]), (4, [0, 1, 2, 9, 10]), (5, [0, 1, 2, 9, 10, 34]), (6, [1, 2, 9, 10, 12]), (7, [9, 12]), (8, [6, 7, 8]), (9, [0, 1, 2, 9, 13]), (10, [0, 1, 2, 9, 13, 60]), (11, [0, 1, 2, 9, 13]), (12, [0, 1, 2, 9, 13, 67]), (13, [9]), (14, [6, 7, 8]), (15, [6, 7, 8])], spec_SlotPut_L A c_70 c_20 c_72 c_75 c_30 c_79 c_83 A.fuel⟩
theorem spec_SlotPut_l0_ok (A : PM.Prims) (c_70 : spec_l15Key_T) (c_20 : spec_BucketOf_T) (c_72 : spec_l3Val_T) (c_75 : spec_l15Slot_T) (c_30 : spec_SlotsOk_T) (c_79 : spec_l15At_T) (c_83 : spec_l15Ints_T) (n : Nat) (l9 : List Int) (key10 : Int) (v11 : Int) (i12 : Int) (o013 : List Int) (K : Go.Exit → PM.S → PM.R) : spec_SlotPut_L A c_70 c_20 c_72 c_75 c_30 c_79 c_83 (n + 1) 0 ⟨[(0, .arr (.ints 3 .i64 l9)), (1, .int .i64 key10), (2, .int .i64 v11), (9, .sref 0), (13, .int .i64 i12)], [(0, .arr true (.ints 3 .i64 o013))]⟩ K = PM.roundF A cx (PM.runD A cx (spec_SlotPut_E A c_70 c_20 c_72 c_75 c_30 c_79 c_83).inl (spec_SlotPut_E A c_70 c_20 c_72 c_75 c_30 c_79 c_83).Γ 3) (spec_SlotPut_E A c_70 c_20 c_72 c_75 c_30 c_79 c_83) (spec_SlotPut_L A c_70 c_20 c_72 c_75 c_30 c_79 c_83 n) 0 Go.Proofs.Try.f47 ⟨[(0, .arr (.ints 3 .i64 l9)), (1, .int .i64 key10), (2, .int .i64 v11), (9, .sref 0), (13, .int .i64 i12)], [(0, .arr true (.ints 3 .i64 o013))]⟩ K := by kernel_rfl
theorem spec_SlotPut_ok (A : PM.Prims) (c_70 : spec_l15Key_T) (c_20 : spec_BucketOf_T) (c_72 : spec_l3Val_T) (c_75 : spec_l15Slot_T) (c_30 : spec_SlotsOk_T) (c_79 : spec_l15At_T) (c_83 : spec_l15Ints_T) (__ : List Int) (a : Int) (r : Int) (k : PM.V → PM.R) : PM.pfun A cx [] (spec_SlotPut_E A c_70 c_20 c_72 c_75 c_30 c_79 c_83) Go.Proofs.Try.f47 [.arr (.ints 3 .i64 __), .int .i64 a, .int .i64 r] k = spec_SlotPut_f A c_70 c_20 c_72 c_75 c_30 c_79 c_83 __ a r (fun r0 r1 r2 => k (.tup [.arr (.ints 3 .i64 r0), .int .i64 r1, .bool r2])) := by kernel_rfl

theorem spec_SlotPut_fn : PM.FnIs Try.prog 47 Try.f47 := .of Try.func47 (by kernel_rfl) (by kernel_rfl)
theorem spec_SlotPut_g : PM.GOk Try.prog cx 47 ⟨[], spec_SlotPut_w (spec_SlotPut PM.std)⟩ := by
  refine ⟨spec_SlotPut_fn.enter, fun _ ds k r h => ?_, fun hm => absurd rfl hm⟩
  change spec_SlotPut_w (spec_SlotPut PM.std) ds k = some r at h
  unfold spec_SlotPut_w at h
  split at h
  · exact PM.pfun_ok (E := spec_SlotPut_E PM.std (spec_l15Key PM.std) (spec_BucketOf PM.std) (spec_l3Val PM.std) (spec_l15Slot PM.std) (spec_SlotsOk PM.std) (spec_l15At PM.std) (spec_l15Ints PM.std)) (L := fun n => spec_SlotPut_L PM.std (spec_l15Key PM.std) (spec_BucketOf PM.std) (spec_l3Val PM.std) (spec_l15Slot PM.std) (spec_SlotsOk PM.std) (spec_l15At PM.std) (spec_l15Ints PM.std) n) (N := PM.std.fuel) cx_ok (.cons spec_l15Key_g (.cons spec_BucketOf_g (.cons spec_l3Val_g (.cons spec_l15Slot_g (.cons spec_SlotsOk_g (.cons spec_l15At_g (.cons spec_l15Ints_g .nil))))))) mixed .nil spec_SlotPut_fn (by kernel_rfl) ⟨rfl, fun cur σ K => by
      dsimp only [spec_SlotPut_L]
      split <;> rfl, fun n cur σ K r h => by
      dsimp only [spec_SlotPut_L] at h
      split at h
      · exact (spec_SlotPut_l0_ok PM.std (spec_l15Key PM.std) (spec_BucketOf PM.std) (spec_l3Val PM.std) (spec_l15Slot PM.std) (spec_SlotsOk PM.std) (spec_l15At PM.std) (spec_l15Ints PM.std) n _ _ _ _ _ K).symm.trans h
      · cases h⟩
      ((spec_SlotPut_ok PM.std (spec_l15Key PM.std) (spec_BucketOf PM.std) (spec_l3Val PM.std) (spec_l15Slot PM.std) (spec_SlotsOk PM.std) (spec_l15At PM.std) (spec_l15Ints PM.std) _ _ _ k).trans h)
  · cases h

abbrev impl_SlotPut_T := (List Int) → (Int) → (Int) → ((List Int) → (Int) → (Bool) → PM.R) → PM.R
noncomputable def impl_SlotPut_w (c : impl_SlotPut_T) (ds : List PM.V) (k : PM.V → PM.R) : PM.R :=
  match ds with
  | [.arr (.ints 3 .i64 __), .int .i64 a, .int .i64 r] => c __ a r (fun r0 r1 r2 => k (.tup [.arr (.ints 3 .i64 r0), .int .i64 r1, .bool r2]))
  | _ => none
noncomputable def impl_SlotPut_l0 (A : PM.Prims) (c_71 : impl_isKey_T) (c_21 : impl_BucketOf_T) (c_73 : impl_isValue_T) (c_77 : impl_slotOf_T) (c_32 : impl_SlotsOk_T) (c_80 : impl_find_T) (c_34 : impl_SlotGet_T) (c_84 : impl_copyInts_T) : Nat → (Int) → (Int) → (Int) → (List Int) → ((Int) → (Int) → (Int) → (List Int) → PM.R) → PM.R
  | 0, _, _, _, _, _ => none
  | n + 1, key10, v11, at12, o013, kx0_0 =>
    bif (A.inb at12 (A.ilen o013)) then
      bif (A.not (A.eq (A.iget o013 at12) 0)) then
        impl_SlotPut_l0 A c_71 c_21 c_73 c_77 c_32 c_80 c_34 c_84 n key10 v11 (A.add .i64 at12 1) o013 kx0_0
      else
        kx0_0 key10 v11 at12 o013
    else
      none
noncomputable def impl_SlotPut_f (A : PM.Prims) (c_71 : impl_isKey_T) (c_21 : impl_BucketOf_T) (c_73 : impl_isValue_T) (c_77 : impl_slotOf_T) (c_32 : impl_SlotsOk_T) (c_80 : impl_find_T) (c_34 : impl_SlotGet_T) (c_84 : impl_copyInts_T) (__ : List Int) (a : Int) (r : Int) (k : (List Int) → (Int) → (Bool) → PM.R) : PM.R :=
  c_84 __ (fun r1 =>
    c_32 __ (fun r2 =>
      bif (A.not r2) then
        k r1 0 false
      else
        c_71 a (fun r3 =>
          bif (A.not r3) then
            k r1 0 false
          else
            c_73 r (fun r4 =>
              bif (A.not r4) then
                k r1 0 false
              else
                c_80 __ a (fun r5 =>
                  bif (A.le 0 r5) then
                    c_34 __ a (fun r6 r7 =>
                      c_77 a r (fun r8 =>
                        bif (A.inb r5 (A.ilen r1)) then
                          k (A.iset r1 r5 r8) (A.add .i64 r6 1) true
                        else
                          none))
                  else
                    c_21 a (fun r9 =>
                      impl_SlotPut_l0 A c_71 c_21 c_73 c_77 c_32 c_80 c_34 c_84 A.fuel a r (A.mul .i64 4 r9) r1 (fun key1418 v1519 at1620 o01721 =>
                        c_77 key1418 v1519 (fun r22 =>
                          bif (A.inb at1620 (A.ilen o01721)) then
                            k (A.iset o01721 at1620 r22) 0 true
                          else
                            none))))))))
noncomputable def impl_SlotPut (A : PM.Prims) : impl_SlotPut_T := impl_SlotPut_f A (impl_isKey A) (impl_BucketOf A) (impl_isValue A) (impl_slotOf A) (impl_SlotsOk A) (impl_find A) (impl_SlotGet A) (impl_copyInts A)
noncomputable def impl_SlotPut_L (A : PM.Prims) (c_71 : impl_isKey_T) (c_21 : impl_BucketOf_T) (c_73 : impl_isValue_T) (c_77 : impl_slotOf_T) (c_32 : impl_SlotsOk_T) (c_80 : impl_find_T) (c_34 : impl_SlotGet_T) (c_84 : impl_copyInts_T) (n : Nat) : PM.Lam := fun cur σ K =>
  match cur, σ, K with
  | 0, ⟨[(1, .int .i64 key10), (2, .int .i64 v11), (9, .sref 0), (13, .int .i64 at12)], [(0, .arr true (.ints 3 .i64 o013))]⟩, K => impl_SlotPut_l0 A c_71 c_21 c_73 c_77 c_32 c_80 c_34 c_84 n key10 v11 at12 o013 (fun key14 v15 at16 o017 => K (.exit 0) ⟨[(1, .int .i64 key14), (2, .int .i64 v15), (9, .sref 0), (13, .int .i64 at16)], [(0, .arr true (.ints 3 .i64 o017))]⟩)
  | _, _, _ => none
noncomputable def impl_SlotPut_E (A : PM.Prims) (c_71 : impl_isKey_T) (c_21 : impl_BucketOf_T) (c_73 : impl_isValue_T) (c_77 : impl_slotOf_T) (c_32 : impl_SlotsOk_T) (c_80 : impl_find_T) (c_34 : impl_SlotGet_T) (c_84 : impl_copyInts_T) : PM.Env := ⟨[(71, ⟨[], impl_isKey_w c_71⟩), (21, ⟨[], impl_BucketOf_w c_21⟩), (73, ⟨[], impl_isValue_w c_73⟩), (77, ⟨[], impl_slotOf_w c_77⟩), (32, ⟨[], impl_SlotsOk_w c_32⟩), (80, ⟨[], impl_find_w c_80⟩), (34, ⟨[], impl_SlotGet_w c_34⟩), (84, ⟨[], impl_copyInts_w c_84⟩)], [], [(0, [1, 2, 9, 13], [1, 2, 6, 7, 8, 9, 13])], [(0, [0, 1, 2]), (1, [0, 1, 2, 9]), (2, [0, 1, 2, 9, 28]), (3, [6, 7, 8]), (4, [0, 1, 2, 9, 10]), (5, [0, 1, 2, 9, 10, 34]), (6, [1, 2, 9, 10, 11]), (7, [9, 11]), (8, [6, 7, 8]), (9, [1, 2, 9, 13]), (10, [1, 2, 9, 13, 57]), (11, [1, 2, 9, 13]), (12, [9]), (13, [6, 7, 8])], impl_SlotPut_L A c_71 c_21 c_73 c_77 c_32 c_80 c_34 c_84 A.fuel⟩
theorem impl_SlotPut_l0_ok (A : PM.Prims) (c_71 : impl_isKey_T) (c_21 : impl_BucketOf_T) (c_73 : impl_isValue_T) (c_77 : impl_slotOf_T) (c_32 : impl_SlotsOk_T) (c_80 : impl_find_T) (c_34 : impl_SlotGet_T) (c_84 : impl_copyInts_T) (n : Nat) (key10 : Int) (v11 : Int) (at12 : Int) (o013 : List Int) (K : Go.Exit → PM.S → PM.R) : impl_SlotPut_L A c_71 c_21 c_73 c_77 c_32 c_80 c_34 c_84 (n + 1) 0 ⟨[(1, .int .i64 key10), (2, .int .i64 v11), (9, .sref 0), (13, .int .i64 at12)], [(0, .arr true (.ints 3 .i64 o013))]⟩ K = PM.roundF A cx (PM.runD A cx (impl_SlotPut_E A c_71 c_21 c_73 c_77 c_32 c_80 c_34 c_84).inl (impl_SlotPut_E A c_71 c_21 c_73 c_77 c_32 c_80 c_34 c_84).Γ 3) (impl_SlotPut_E A c_71 c_21 c_73 c_77 c_32 c_80 c_34 c_84) (impl_SlotPut_L A c_71 c_21 c_73 c_77 c_32 c_80 c_34 c_84 n) 0 Go.Proofs.Try.f48 ⟨[(1, .int .i64 key10), (2, .int .i64 v11), (9, .sref 0), (13, .int .i64 at12)], [(0, .arr true (.ints 3 .i64 o013))]⟩ K := by kernel_rfl
theorem impl_SlotPut_ok (A : PM.Prims) (c_71 : impl_isKey_T) (c_21 : impl_BucketOf_T) (c_73 : impl_isValue_T) (c_77 : impl_slotOf_T) (c_32 : impl_SlotsOk_T) (c_80 : impl_find_T) (c_34 : impl_SlotGet_T) (c_84 : impl_copyInts_T) (__ : List Int) (a : Int) (r : Int) (k : PM.V → PM.R) : PM.pfun A cx [] (impl_SlotPut_E A c_71 c_21 c_73 c_77 c_32 c_80 c_34 c_84) Go.Proofs.Try.f48 [.arr (.ints 3 .i64 __), .int .i64 a, .int .i64 r] k = impl_SlotPut_f A c_71 c_21 c_73 c_77 c_32 c_80 c_34 c_84 __ a r (fun r0 r1 r2 => k (.tup [.arr (.ints 3 .i64 r0), .int .i64 r1, .bool r2])) := by kernel_rfl

theorem impl_SlotPut_fn : PM.FnIs Try.prog 48 Try.f48 := .of Try.func48 (by kernel_rfl) (by kernel_rfl)
theorem impl_SlotPut_g : PM.GOk Try.prog cx 48 ⟨[], impl_SlotPut_w (impl_SlotPut PM.std)⟩ := by
  refine ⟨impl_SlotPut_fn.enter, fun _ ds k r h => ?_, fun hm => absurd rfl hm⟩
  change impl_SlotPut_w (impl_SlotPut PM.std) ds k = some r at h
  unfold impl_SlotPut_w at h
  split at h
  · exact PM.pfun_ok (E := impl_SlotPut_E PM.std (impl_isKey PM.std) (impl_BucketOf PM.std) (impl_isValue PM.std) (impl_slotOf PM.std) (impl_SlotsOk PM.std) (impl_find PM.std) (impl_SlotGet PM.std) (impl_copyInts PM.std)) (L := fun n => impl_SlotPut_L PM.std (impl_isKey PM.std) (impl_BucketOf PM.std) (impl_isValue PM.std) (impl_slotOf PM.std) (impl_SlotsOk PM.std) (impl_find PM.std) (impl_SlotGet PM.std) (impl_copyInts PM.std) n) (N := PM.std.fuel) cx_ok (.cons impl_isKey_g (.cons impl_BucketOf_g (.cons impl_isValue_g (.cons impl_slotOf_g (.cons impl_SlotsOk_g (.cons impl_find_g (.cons impl_SlotGet_g (.cons impl_copyInts_g .nil)))))))) mixed .nil impl_SlotPut_fn (by kernel_rfl) ⟨rfl, fun cur σ K => by
      dsimp only [impl_SlotPut_L]
      split <;> rfl, fun n cur σ K r h => by
      dsimp only [impl_SlotPut_L] at h
      split at h
      · exact (impl_SlotPut_l0_ok PM.std (impl_isKey PM.std) (impl_BucketOf PM.std) (impl_isValue PM.std) (impl_slotOf PM.std) (impl_SlotsOk PM.std) (impl_find PM.std) (impl_SlotGet PM.std) (impl_copyInts PM.std) n _ _ _ _ K).symm.trans h
      · cases h⟩
      ((impl_SlotPut_ok PM.std (impl_isKey PM.std) (impl_BucketOf PM.std) (impl_isValue PM.std) (impl_slotOf PM.std) (impl_SlotsOk PM.std) (impl_find PM.std) (impl_SlotGet PM.std) (impl_copyInts PM.std) _ _ _ k).trans h)
  · cases h

abbrev laws_FnExactSlotPut_T := (List Int) → (Int) → (Int) → ((Bool) → PM.R) → PM.R
noncomputable def laws_FnExactSlotPut_w (c : laws_FnExactSlotPut_T) (ds : List PM.V) (k : PM.V → PM.R) : PM.R :=
  match ds with
  | [.arr (.ints 3 .i64 __), .int .i64 a, .int .i64 r] => c __ a r (fun r0 => k (.bool r0))
  | _ => none
noncomputable def laws_FnExactSlotPut_f (A : PM.Prims) (c_24 : laws_eqIntS_T) (c_25 : laws_markIntS_T) (c_26 : laws_heldIntS_T) (c_31 : laws_toIntS_T) (c_47 : spec_SlotPut_T) (c_48 : impl_SlotPut_T) (__ : List Int) (a : Int) (r : Int) (k : (Bool) → PM.R) : PM.R :=
  bif (A.lt 1048576 (A.ilen __)) then
    k true
  else
    c_31 __ (fun r1 =>
      c_47 r1 a r (fun r2 r3 r4 =>
        c_31 __ (fun r5 =>
          c_48 r5 a r (fun r6 r7 r8 =>
            c_24 r6 r2 (fun r9 =>
              bif (A.not r9) then
                k false
              else
                bif (A.not (A.eq r7 r3)) then
                  k false
                else
                  bif (A.not (A.beq r8 r4)) then
                    k false
                  else
                    c_31 __ (fun r10 =>
                      c_24 r5 r10 (fun r11 =>
                        bif (A.not r11) then
                          k false
                        else
                          c_25 r5 1 (fun r12 r13 =>
                            bif (A.lt r12 0) then
                              k false
                            else
                              c_24 r6 r2 (fun r14 =>
                                bif (A.not r14) then
                                  k false
                                else
                                  bif (A.not (A.eq r7 r3)) then
                                    k false
                                  else
                                    bif (A.not (A.beq r8 r4)) then
                                      k false
                                    else
                                      c_25 r6 1 (fun r15 r16 =>
                                        c_26 r16 1 (fun r17 =>
                                          bif (A.lt r17 0) then
                                            k false
                                          else
                                            bif (A.not (A.eq r17 r15)) then
                                              k false
                                            else
                                              c_31 __ (fun r18 =>
                                                c_48 r18 a r (fun r19 r20 r21 =>
                                                  c_24 r19 r2 (fun r22 =>
                                                    bif (A.not r22) then
                                                      k false
                                                    else
                                                      bif (A.not (A.eq r20 r3)) then
                                                        k false
                                                      else
                                                        bif (A.not (A.beq r21 r4)) then
                                                          k false
                                                        else
                                                          c_26 r16 1 (fun r23 =>
                                                            bif (A.lt r23 0) then
                                                              k false
                                                            else
                                                              bif (A.not (A.eq r23 r15)) then
                                                                k false
                                                              else
                                                                k true)))))))))))))))
noncomputable def laws_FnExactSlotPut (A : PM.Prims) : laws_FnExactSlotPut_T := laws_FnExactSlotPut_f A (laws_eqIntS A) (laws_markIntS A) (laws_heldIntS A) (laws_toIntS A) (spec_SlotPut A) (impl_SlotPut A)
noncomputable def laws_FnExactSlotPut_L (A : PM.Prims) (c_24 : laws_eqIntS_T) (c_25 : laws_markIntS_T) (c_26 : laws_heldIntS_T) (c_31 : laws_toIntS_T) (c_47 : spec_SlotPut_T) (c_48 : impl_SlotPut_T) (n : Nat) : PM.Lam := fun cur σ K =>
  match cur, σ, K with
  | _, _, _ => none
noncomputable def laws_FnExactSlotPut_E (A : PM.Prims) (c_24 : laws_eqIntS_T) (c_25 : laws_markIntS_T) (c_26 : laws_heldIntS_T) (c_31 : laws_toIntS_T) (c_47 : spec_SlotPut_T) (c_48 : impl_SlotPut_T) : PM.Env := ⟨[(24, ⟨[], laws_eqIntS_w c_24⟩), (25, ⟨[true, false], laws_markIntS_w c_25⟩), (26, ⟨[], laws_heldIntS_w c_26⟩), (31, ⟨[], laws_toIntS_w c_31⟩), (47, ⟨[], spec_SlotPut_w c_47⟩), (48, ⟨[], impl_SlotPut_w c_48⟩)], [], [], [(0, [0, 1, 2]), (1, [0, 1, 2, 22]), (2, [6]), (3, [0, 1, 2, 7, 8, 9]), (4, [0, 1, 2, 7, 8, 9, 10]), (5, [0, 1, 2, 7, 8, 9, 10, 11, 12, 13]), (6, [0, 1, 2, 7, 8, 9, 10, 11, 12, 13, 55]), (7, [6]), (8, [0, 1, 2, 7, 8, 9, 10, 11, 12, 13, 60]), (9, [6]), (10, [0, 1, 2, 7, 8, 9, 10, 11, 12, 13, 14]), (11, [0, 1, 2, 7, 8, 9, 11, 12, 13, 14]), (12, [0, 1, 2, 7, 8, 9, 11, 81]), (13, [6]), (14, [0, 1, 2, 7, 8, 9, 11, 15]), (15, [0, 1, 2, 7, 8, 9, 11, 15]), (16, [0, 1, 2, 7, 8, 9, 11, 15, 16]), (17, [0, 1, 2, 7, 8, 9, 11, 15, 16]), (18, [0, 1, 2, 7, 8, 9, 11, 15, 16, 89]), (19, [6]), (20, [0, 1, 2, 7, 8, 9, 11, 15, 92]), (21, [6]), (22, [7, 8, 9, 11, 15, 17, 18, 19]), (23, [11, 15, 115]), (24, [6]), (25, [11, 15, 16]), (26, [15, 16]), (27, [15, 16, 120]), (28, [6]), (29, [123]), (30, [6]), (31, [6])], laws_FnExactSlotPut_L A c_24 c_25 c_26 c_31 c_47 c_48 A.fuel⟩
theorem laws_FnExactSlotPut_ok (A : PM.Prims) (c_24 : laws_eqIntS_T) (c_25 : laws_markIntS_T) (c_26 : laws_heldIntS_T) (c_31 : laws_toIntS_T) (c_47 : spec_SlotPut_T) (c_48 : impl_SlotPut_T) (__ : List Int) (a : Int) (r : Int) (k : PM.V → PM.R) : PM.pfun A cx [] (laws_FnExactSlotPut_E A c_24 c_25 c_26 c_31 c_47 c_48) Go.Proofs.Try.f12 [.arr (.ints 3 .i64 __), .int .i64 a, .int .i64 r] k = laws_FnExactSlotPut_f A c_24 c_25 c_26 c_31 c_47 c_48 __ a r (fun r0 => k (.bool r0)) := by kernel_rfl

theorem laws_FnExactSlotPut_fn : PM.FnIs Try.prog 12 Try.f12 := .of Try.func12 (by kernel_rfl) (by kernel_rfl)
theorem laws_FnExactSlotPut_g : PM.GOk Try.prog cx 12 ⟨[], laws_FnExactSlotPut_w (laws_FnExactSlotPut PM.std)⟩ := by
  refine ⟨laws_FnExactSlotPut_fn.enter, fun _ ds k r h => ?_, fun hm => absurd rfl hm⟩
  change laws_FnExactSlotPut_w (laws_FnExactSlotPut PM.std) ds k = some r at h
  unfold laws_FnExactSlotPut_w at h
  split at h
  · exact PM.pfun_ok (E := laws_FnExactSlotPut_E PM.std (laws_eqIntS PM.std) (laws_markIntS PM.std) (laws_heldIntS PM.std) (laws_toIntS PM.std) (spec_SlotPut PM.std) (impl_SlotPut PM.std)) (L := fun n => laws_FnExactSlotPut_L PM.std (laws_eqIntS PM.std) (laws_markIntS PM.std) (laws_heldIntS PM.std) (laws_toIntS PM.std) (spec_SlotPut PM.std) (impl_SlotPut PM.std) n) (N := PM.std.fuel) cx_ok (.cons laws_eqIntS_g (.cons laws_markIntS_g (.cons laws_heldIntS_g (.cons laws_toIntS_g (.cons spec_SlotPut_g (.cons impl_SlotPut_g .nil)))))) mixed .nil laws_FnExactSlotPut_fn (by kernel_rfl) ⟨rfl, fun _ _ _ => rfl, fun n cur σ K r h => by cases h⟩
      ((laws_FnExactSlotPut_ok PM.std (laws_eqIntS PM.std) (laws_markIntS PM.std) (laws_heldIntS PM.std) (laws_toIntS PM.std) (spec_SlotPut PM.std) (impl_SlotPut PM.std) _ _ _ k).trans h)
  · cases h

abbrev spec_SlotsFrom_T := (List Int) → ((List Int) → PM.R) → PM.R
noncomputable def spec_SlotsFrom_w (c : spec_SlotsFrom_T) (ds : List PM.V) (k : PM.V → PM.R) : PM.R :=
  match ds with
  | [.arr (.ints 3 .i64 m)] => c m (fun r0 => k (.arr (.ints 3 .i64 r0)))
  | _ => none
noncomputable def spec_SlotsFrom_l0 (A : PM.Prims) (c_74 : spec_l1In_T) (c_22 : spec_SlotNew_T) (c_47 : spec_SlotPut_T) : Nat → (List Int) → (Int) → (List Int) → ((List Int) → PM.R) → ((List Int) → PM.R) → PM.R
  | 0, _, _, _, _, _ => none
  | n + 1, m2, k3, o04, kret_0, kx0_0 =>
    bif (A.lt k3 (A.ilen m2)) then
      bif (A.inb k3 (A.ilen m2)) then
        c_74 (A.iget m2 k3) 0 65536 (fun r5 =>
          bif (A.not r5) then
            kret_0 []
          else
            bif (A.inb k3 (A.ilen m2)) then
              bif (A.lt 0 (A.iget m2 k3)) then
                bif (A.inb k3 (A.ilen m2)) then
                  c_47 o04 k3 (A.sub .i64 (A.iget m2 k3) 1) (fun r7 r8 r9 =>
                    spec_SlotsFrom_l0 A c_74 c_22 c_47 n m2 (A.add .i64 k3 1) r7 kret_0 kx0_0)
                else
                  none
              else
                spec_SlotsFrom_l0 A c_74 c_22 c_47 n m2 (A.add .i64 k3 1) o04 kret_0 kx0_0
            else
              none)
      else
        none
    else
      kx0_0 o04
noncomputable def spec_SlotsFrom_f (A : PM.Prims) (c_74 : spec_l1In_T) (c_22 : spec_SlotNew_T) (c_47 : spec_SlotPut_T) (m : List Int) (k : (List Int) → PM.R) : PM.R :=
  bif (A.not (A.eq (A.ilen m) 8)) then
    k []
  else
    c_22 (fun r1 =>
      spec_SlotsFrom_l0 A c_74 c_22 c_47 A.fuel m 0 r1 (fun o0611 =>
        k o0611) (fun o01012 =>
        k o01012))
noncomputable def spec_SlotsFrom (A : PM.Prims) : spec_SlotsFrom_T := spec_SlotsFrom_f A (spec_l1In A) (spec_SlotNew A) (spec_SlotPut A)
noncomputable def spec_SlotsFrom_L (A : PM.Prims) (c_74 : spec_l1In_T) (c_22 : spec_SlotNew_T) (c_47 : spec_SlotPut_T) (n : Nat) : PM.Lam := fun cur σ K =>
  match cur, σ, K with
  | 0, ⟨[(0, .arr (.ints 3 .i64 m2)), (3, .sref 0), (4, .int .i64 k3)], [(0, .arr true (.ints 3 .i64 o04))]⟩, K => spec_SlotsFrom_l0 A c_74 c_22 c_47 n m2 k3 o04 (fun o06 => K .ret ⟨[(2, .sref 0)], [(0, .arr true (.ints 3 .i64 o06))]⟩) (fun o010 => K (.exit 0) ⟨[(3, .sref 0)], [(0, .arr true (.ints 3 .i64 o010))]⟩)
  | _, _, _ => none
noncomputable def spec_SlotsFrom_E (A : PM.Prims) (c_74 : spec_l1In_T) (c_22 : spec_SlotNew_T) (c_47 : spec_SlotPut_T) : PM.Env := ⟨[(74, ⟨[], spec_l1In_w c_74⟩), (22, ⟨[], spec_SlotNew_w c_22⟩), (47, ⟨[], spec_SlotPut_w c_47⟩)], [], [(0, [0, 3, 4], [2, 3])], [(0, [0]), (1, [0, 10]), (2, [2]), (3, [0, 3]), (4, [0, 3, 4]), (5, [0, 3, 4, 16]), (6, [0, 3, 4]), (7, [0, 3, 4, 24]), (8, [2]), (9, [0, 3, 4, 30]), (10, [0, 4, 5]), (11, [0, 3, 4]), (12, [2])], spec_SlotsFrom_L A c_74 c_22 c_47 A.fuel⟩
theorem spec_SlotsFrom_l0_ok (A : PM.Prims) (c_74 : spec_l1In_T) (c_22 : spec_SlotNew_T) (c_47 : spec_SlotPut_T) (n : Nat) (m2 : List Int) (k3 : Int) (o04 : List Int) (K : Go.Exit → PM.S → PM.R) : spec_SlotsFrom_L A c_74 c_22 c_47 (n + 1) 0 ⟨[(0, .arr (.ints 3 .i64 m2)), (3, .sref 0), (4, .int .i64 k3)], [(0, .arr true (.ints 3 .i64 o04))]⟩ K = PM.roundF A cx (PM.runD A cx (spec_SlotsFrom_E A c_74 c_22 c_47).inl (spec_SlotsFrom_E A c_74 c_22 c_47).Γ 3) (spec_SlotsFrom_E A c_74 c_22 c_47) (spec_SlotsFrom_L A c_74 c_22 c_47 n) 0 Go.Proofs.Try.f49 ⟨[(0, .arr (.ints 3 .i64 m2)), (3, .sref 0), (4, .int .i64 k3)], [(0, .arr true (.ints 3 .i64 o04))]⟩ K := by kernel_rfl
theorem spec_SlotsFrom_ok (A : PM.Prims) (c_74 : spec_l1In_T) (c_22 : spec_SlotNew_T) (c_47 : spec_SlotPut_T) (m : List Int) (k : PM.V → PM.R) : PM.pfun A cx [] (spec_SlotsFrom_E A c_74 c_22 c_47) Go.Proofs.Try.f49 [.arr (.ints 3 .i64 m)] k = spec_SlotsFrom_f A c_74 c_22 c_47 m (fun r0 => k (.arr (.ints 3 .i64 r0))) := by kernel_rfl

theorem spec_SlotsFrom_fn : PM.FnIs Try.prog 49 Try.f49 := .of Try.func49 (by kernel_rfl) (by kernel_rfl)
theorem spec_SlotsFrom_g : PM.GOk Try.prog cx 49 ⟨[], spec_SlotsFrom_w (spec_SlotsFrom PM.std)⟩ := by
  refine ⟨spec_SlotsFrom_fn.enter, fun _ ds k r h => ?_, fun hm => absurd rfl hm⟩
  change spec_SlotsFrom_w (spec_SlotsFrom PM.std) ds k = some r at h
  unfold spec_SlotsFrom_w at h
  split at h
  · exact PM.pfun_ok (E := spec_SlotsFrom_E PM.std (spec_l1In PM.std) (spec_SlotNew PM.std) (spec_SlotPut PM.std)) (L := fun n => spec_SlotsFrom_L PM.std (spec_l1In PM.std) (spec_SlotNew PM.std) (spec_SlotPut PM.std) n) (N := PM.std.fuel) cx_ok (.cons spec_l1In_g (.cons spec_SlotNew_g (.cons spec_SlotPut_g .nil))) mixed .nil spec_SlotsFrom_fn (by kernel_rfl) ⟨rfl, fun cur σ K => by
      dsimp only [spec_SlotsFrom_L]
      split <;> rfl, fun n cur σ K r h => by
      dsimp only [spec_SlotsFrom_L] at h
      split at h
      · exact (spec_SlotsFrom_l0_ok PM.std (spec_l1In PM.std) (spec_SlotNew PM.std) (spec_SlotPut PM.std) n _ _ _ K).symm.trans h
      · cases h⟩
      ((spec_SlotsFrom_ok PM.std (spec_l1In PM.std) (spec_SlotNew PM.std) (spec_SlotPut PM.std) _ k).trans h)
  · cases h

abbrev impl_isMap_T := (List Int) → ((Bool) → PM.R) → PM.R
noncomputable def impl_isMap_w (c : impl_isMap_T) (ds : List PM.V) (k : PM.V → PM.R) : PM.R :=
  match ds with
  | [.arr (.ints 3 .i64 l)] => c l (fun r0 => k (.bool r0))
  | _ => none
noncomputable def impl_isMap_l0 (A : PM.Prims) (c_76 : impl_within_T) : Nat → (List Int) → (List Int) → (Int) → (Int) → ((Bool) → PM.R) → ((List Int) → PM.R) → PM.R
  | 0, _, _, _, _, _, _ => none
  | n + 1, l1, t52, t63, t74, kret_0, kx0_0 =>
    bif (A.lt t74 t63) then
      bif (A.inb t74 (A.ilen t52)) then
        c_76 (A.iget t52 t74) 0 65536 (fun r5 =>
          bif (A.not r5) then
            kret_0 false
          else
            impl_isMap_l0 A c_76 n l1 t52 t63 (A.add .i64 t74 1) kret_0 kx0_0)
      else
        none
    else
      kx0_0 l1
noncomputable def impl_isMap_f (A : PM.Prims) (c_76 : impl_within_T) (l : List Int) (k : (Bool) → PM.R) : PM.R :=
  impl_isMap_l0 A c_76 A.fuel l l (A.ilen l) 0 (fun t268 =>
    k t268) (fun l79 =>
    k (A.eq (A.ilen l79) 8))
noncomputable def impl_isMap (A : PM.Prims) : impl_isMap_T := impl_isMap_f A (impl_within A)
noncomputable def impl_isMap_L (A : PM.Prims) (c_76 : impl_within_T) (n : Nat) : PM.Lam := fun cur σ K =>
  match cur, σ, K with
  | 0, ⟨[(0, .arr (.ints 3 .i64 l1)), (5, .arr (.ints 3 .i64 t52)), (6, .int .i64 t63), (7, .int .i64 t74)], []⟩, K => impl_isMap_l0 A c_76 n l1 t52 t63 t74 (fun t26 => K .ret ⟨[(2, .bool t26)], []⟩) (fun l7 => K (.exit 0) ⟨[(0, .arr (.ints 3 .i64 l7))], []⟩)
  | _, _, _ => none
noncomputable def impl_isMap_E (A : PM.Prims) (c_76 : impl_within_T) : PM.Env := ⟨[(76, ⟨[], impl_within_w c_76⟩)], [], [(0, [0, 5, 6, 7], [0, 2])], [(0, [0]), (1, [0, 5, 6, 7]), (2, [0, 5, 6, 7, 8]), (3, [0, 4, 5, 6, 7]), (4, [0, 5, 6, 7, 13]), (5, [2]), (6, [0, 5, 6, 7]), (7, [2])], impl_isMap_L A c_76 A.fuel⟩
theorem impl_isMap_l0_ok (A : PM.Prims) (c_76 : impl_within_T) (n : Nat) (l1 : List Int) (t52 : List Int) (t63 : Int) (t74 : Int) (K : Go.Exit → PM.S → PM.R) : impl_isMap_L A c_76 (n + 1) 0 ⟨[(0, .arr (.ints 3 .i64 l1)), (5, .arr (.ints 3 .i64 t52)), (6, .int .i64 t63), (7, .int .i64 t74)], []⟩ K = PM.roundF A cx (PM.runD A cx (impl_isMap_E A c_76).inl (impl_isMap_E A c_76).Γ 3) (impl_isMap_E A c_76) (impl_isMap_L A c_76 n) 0 Go.Proofs.Try.f85 ⟨[(0, .arr (.ints 3 .i64 l1)), (5, .arr (.ints 3 .i64 t52)), (6, .int .i64 t63), (7, .int .i64 t74)], []⟩ K := by kernel_rfl
theorem impl_isMap_ok (A : PM.Prims) (c_76 : impl_within_T) (l : List Int) (k : PM.V → PM.R) : PM.pfun A cx [] (impl_isMap_E A c_76) Go.Proofs.Try.f85 [.arr (.ints 3 .i64 l)] k = impl_isMap_f A c_76 l (fun r0 => k (.bool r0)) := by kernel_rfl

theorem impl_isMap_fn : PM.FnIs Try.prog 85 Try.f85 := .of Try.func85 (by kernel_rfl) (by kernel_rfl)
theorem impl_isMap_g : PM.GOk Try.prog cx 85 ⟨[], impl_isMap_w (impl_isMap PM.std)⟩ := by
  refine ⟨impl_isMap_fn.enter, fun _ ds k r h => ?_, fun hm => absurd rfl hm⟩
  change impl_isMap_w (impl_isMap PM.std) ds k = some r at h
  unfold impl_isMap_w at h
  split at h
  · exact PM.pfun_ok (E := impl_isMap_E PM.std (impl_within PM.std)) (L := fun n => impl_isMap_L PM.std (impl_within PM.std) n) (N := PM.std.fuel) cx_ok (.cons impl_within_g .nil) mixed .nil impl_isMap_fn (by kernel_rfl) ⟨rfl, fun cur σ K => by
      dsimp only [impl_isMap_L]
      split <;> rfl, fun n cur σ K r h => by
      dsimp only [impl_isMap_L] at h
      split at h
      · exact (impl_isMap_l0_ok PM.std (impl_within PM.std) n _ _ _ _ K).symm.trans h
      · cases h⟩
      ((impl_isMap_ok PM.std (impl_within PM.std) _ k).trans h)
  · cases h

abbrev impl_SlotsFrom_T := (List Int) → ((List Int) → PM.R) → PM.R
noncomputable def impl_SlotsFrom_w (c : impl_SlotsFrom_T) (ds : List PM.V) (k : PM.V → PM.R) : PM.R :=
  match ds with
  | [.arr (.ints 3 .i64 m)] => c m (fun r0 => k (.arr (.ints 3 .i64 r0)))
  | _ => none
noncomputable def impl_SlotsFrom_l0 (A : PM.Prims) (c_23 : impl_SlotNew_T) (c_48 : impl_SlotPut_T) (c_85 : impl_isMap_T) : Nat → (List Int) → (Int) → (Int) → (List Int) → ((List Int) → PM.R) → PM.R
  | 0, _, _, _, _, _ => none
  | n + 1, t103, t114, t125, o06, kx0_0 =>
    bif (A.lt t125 t114) then
      bif (A.inb t125 (A.ilen t103)) then
        bif (A.lt 0 (A.iget t103 t125)) then
          c_48 o06 t125 (A.sub .i64 (A.iget t103 t125) 1) (fun r7 r8 r9 =>
            impl_SlotsFrom_l0 A c_23 c_48 c_85 n t103 t114 (A.add .i64 t125 1) r7 kx0_0)
        else
          impl_SlotsFrom_l0 A c_23 c_48 c_85 n t103 t114 (A.add .i64 t125 1) o06 kx0_0
      else
        none
    else
      kx0_0 o06
noncomputable def impl_SlotsFrom_f (A : PM.Prims) (c_23 : impl_SlotNew_T) (c_48 : impl_SlotPut_T) (c_85 : impl_isMap_T) (m : List Int) (k : (List Int) → PM.R) : PM.R :=
  c_85 m (fun r1 =>
    bif (A.not r1) then
      k []
    else
      c_23 (fun r2 =>
        impl_SlotsFrom_l0 A c_23 c_48 c_85 A.fuel m (A.ilen m) 0 r2 (fun o01011 =>
          k o01011)))
noncomputable def impl_SlotsFrom (A : PM.Prims) : impl_SlotsFrom_T := impl_SlotsFrom_f A (impl_SlotNew A) (impl_SlotPut A) (impl_isMap A)
noncomputable def impl_SlotsFrom_L (A : PM.Prims) (c_23 : impl_SlotNew_T) (c_48 : impl_SlotPut_T) (c_85 : impl_isMap_T) (n : Nat) : PM.Lam := fun cur σ K =>
  match cur, σ, K with
  | 0, ⟨[(3, .sref 0), (10, .arr (.ints 3 .i64 t103)), (11, .int .i64 t114), (12, .int .i64 t125)], [(0, .arr true (.ints 3 .i64 o06))]⟩, K => impl_SlotsFrom_l0 A c_23 c_48 c_85 n t103 t114 t125 o06 (fun o010 => K (.exit 0) ⟨[(3, .sref 0)], [(0, .arr true (.ints 3 .i64 o010))]⟩)
  | _, _, _ => none
noncomputable def impl_SlotsFrom_E (A : PM.Prims) (c_23 : impl_SlotNew_T) (c_48 : impl_SlotPut_T) (c_85 : impl_isMap_T) : PM.Env := ⟨[(23, ⟨[], impl_SlotNew_w c_23⟩), (48, ⟨[], impl_SlotPut_w c_48⟩), (85, ⟨[], impl_isMap_w c_85⟩)], [], [(0, [3, 10, 11, 12], [2, 3])], [(0, [0]), (1, [0, 8]), (2, [2]), (3, [0, 3]), (4, [3, 10, 11, 12]), (5, [3, 10, 11, 12, 13]), (6, [3, 4, 5, 10, 11, 12]), (7, [3, 4, 5, 10, 11, 12, 18]), (8, [3, 10, 11, 12]), (9, [3, 10, 11, 12]), (10, [2])], impl_SlotsFrom_L A c_23 c_48 c_85 A.fuel⟩
theorem impl_SlotsFrom_l0_ok (A : PM.Prims) (c_23 : impl_SlotNew_T) (c_48 : impl_SlotPut_T) (c_85 : impl_isMap_T) (n : Nat) (t103 : List Int) (t114 : Int) (t125 : Int) (o06 : List Int) (K : Go.Exit → PM.S → PM.R) : impl_SlotsFrom_L A c_23 c_48 c_85 (n + 1) 0 ⟨[(3, .sref 0), (10, .arr (.ints 3 .i64 t103)), (11, .int .i64 t114), (12, .int .i64 t125)], [(0, .arr true (.ints 3 .i64 o06))]⟩ K = PM.roundF A cx (PM.runD A cx (impl_SlotsFrom_E A c_23 c_48 c_85).inl (impl_SlotsFrom_E A c_23 c_48 c_85).Γ 3) (impl_SlotsFrom_E A c_23 c_48 c_85) (impl_SlotsFrom_L A c_23 c_48 c_85 n) 0 Go.Proofs.Try.f50 ⟨[(3, .sref 0), (10, .arr (.ints 3 .i64 t103)), (11, .int .i64 t114), (12, .int .i64 t125)], [(0, .arr true (.ints 3 .i64 o06))]⟩ K := by kernel_rfl
theorem impl_SlotsFrom_ok (A : PM.Prims) (c_23 : impl_SlotNew_T) (c_48 : impl_SlotPut_T) (c_85 : impl_isMap_T) (m : List Int) (k : PM.V → PM.R) : PM.pfun A cx [] (impl_SlotsFrom_E A c_23 c_48 c_85) Go.Proofs.Try.f50 [.arr (.ints 3 .i64 m)] k = impl_SlotsFrom_f A c_23 c_48 c_85 m (fun r0 => k (.arr (.ints 3 .i64 r0))) := by kernel_rfl

theorem impl_SlotsFrom_fn : PM.FnIs Try.prog 50 Try.f50 := .of Try.func50 (by kernel_rfl) (by kernel_rfl)
theorem impl_SlotsFrom_g : PM.GOk Try.prog cx 50 ⟨[], impl_SlotsFrom_w (impl_SlotsFrom PM.std)⟩ := by
  refine ⟨impl_SlotsFrom_fn.enter, fun _ ds k r h => ?_, fun hm => absurd rfl hm⟩
  change impl_SlotsFrom_w (impl_SlotsFrom PM.std) ds k = some r at h
  unfold impl_SlotsFrom_w at h
  split at h
  · exact PM.pfun_ok (E := impl_SlotsFrom_E PM.std (impl_SlotNew PM.std) (impl_SlotPut PM.std) (impl_isMap PM.std)) (L := fun n => impl_SlotsFrom_L PM.std (impl_SlotNew PM.std) (impl_SlotPut PM.std) (impl_isMap PM.std) n) (N := PM.std.fuel) cx_ok (.cons impl_SlotNew_g (.cons impl_SlotPut_g (.cons impl_isMap_g .nil))) mixed .nil impl_SlotsFrom_fn (by kernel_rfl) ⟨rfl, fun cur σ K => by
      dsimp only [impl_SlotsFrom_L]
      split <;> rfl, fun n cur σ K r h => by
      dsimp only [impl_SlotsFrom_L] at h
      split at h
      · exact (impl_SlotsFrom_l0_ok PM.std (impl_SlotNew PM.std) (impl_SlotPut PM.std) (impl_isMap PM.std) n _ _ _ _ K).symm.trans h
      · cases h⟩
      ((impl_SlotsFrom_ok PM.std (impl_SlotNew PM.std) (impl_SlotPut PM.std) (impl_isMap PM.std) _ k).trans h)
  · cases h

abbrev laws_FnExactSlotsFrom_T := (List Int) → ((Bool) → PM.R) → PM.R
noncomputable def laws_FnExactSlotsFrom_w (c : laws_FnExactSlotsFrom_T) (ds : List PM.V) (k : PM.V → PM.R) : PM.R :=
  match ds with
  | [.arr (.ints 3 .i64 __)] => c __ (fun r0 => k (.bool r0))
  | _ => none
noncomputable def laws_FnExactSlotsFrom_f (A : PM.Prims) (c_24 : laws_eqIntS_T) (c_25 : laws_markIntS_T) (c_26 : laws_heldIntS_T) (c_31 : laws_toIntS_T) (c_49 : spec_SlotsFrom_T) (c_50 : impl_SlotsFrom_T) (__ : List Int) (k : (Bool) → PM.R) : PM.R :=
  bif (A.lt 1048576 (A.ilen __)) then
    k true
  else
    c_31 __ (fun r1 =>
      c_49 r1 (fun r2 =>
        c_31 __ (fun r3 =>
          c_50 r3 (fun r4 =>
            c_24 r4 r2 (fun r5 =>
              bif (A.not r5) then
                k false
              else
                c_31 __ (fun r6 =>
                  c_24 r3 r6 (fun r7 =>
                    bif (A.not r7) then
                      k false
                    else
                      c_25 r3 1 (fun r8 r9 =>
                        bif (A.lt r8 0) then
                          k false
                        else
                          c_24 r4 r2 (fun r10 =>
                            bif (A.not r10) then
                              k false
                            else
                              c_25 r4 1 (fun r11 r12 =>
                                c_26 r12 1 (fun r13 =>
                                  bif (A.lt r13 0) then
                                    k false
                                  else
                                    bif (A.not (A.eq r13 r11)) then
                                      k false
                                    else
                                      c_31 __ (fun r14 =>
                                        c_50 r14 (fun r15 =>
                                          c_24 r15 r2 (fun r16 =>
                                            bif (A.not r16) then
                                              k false
                                            else
                                              c_26 r12 1 (fun r17 =>
                                                bif (A.lt r17 0) then
                                                  k false
                                                else
                                                  bif (A.not (A.eq r17 r11)) then
                                                    k false
                                                  else
                                                    k true)))))))))))))))
noncomputable def laws_FnExactSlotsFrom (A : PM.Prims) : laws_FnExactSlotsFrom_T := laws_FnExactSlotsFrom_f A (laws_eqIntS A) (laws_markIntS A) (laws_heldIntS A) (laws_toIntS A) (spec_SlotsFrom A) (impl_SlotsFrom A)
noncomputable def laws_FnExactSlotsFrom_L (A : PM.Prims) (c_24 : laws_eqIntS_T) (c_25 : laws_markIntS_T) (c_26 : laws_heldIntS_T) (c_31 : laws_toIntS_T) (c_49 : spec_SlotsFrom_T) (c_50 : impl_SlotsFrom_T) (n : Nat) : PM.Lam := fun cur σ K =>
  match cur, σ, K with
  | _, _, _ => none
noncomputable def laws_FnExactSlotsFrom_E (A : PM.Prims) (c_24 : laws_eqIntS_T) (c_25 : laws_markIntS_T) (c_26 : laws_heldIntS_T) (c_31 : laws_toIntS_T) (c_49 : spec_SlotsFrom_T) (c_50 : impl_SlotsFrom_T) : PM.Env := ⟨[(24, ⟨[], laws_eqIntS_w c_24⟩), (25, ⟨[true, false], laws_markIntS_w c_25⟩), (26, ⟨[], laws_heldIntS_w c_26⟩), (31, ⟨[], laws_toIntS_w c_31⟩), (49, ⟨[], spec_SlotsFrom_w c_49⟩), (50, ⟨[], impl_SlotsFrom_w c_50⟩)], [], [], [(0, [0]), (1, [0, 12]), (2, [2]), (3, [0, 3]), (4, [0, 3, 4]), (5, [0, 3, 4, 5]), (6, [0, 3, 4, 5, 23]), (7, [2]), (8, [0, 3, 4, 5, 28]), (9, [2]), (10, [0, 3, 4, 5, 6]), (11, [0, 3, 5, 6]), (12, [0, 3, 5, 39]), (13, [2]), (14, [0, 3, 5, 7]), (15, [0, 3, 5, 7]), (16, [0, 3, 5, 7, 8]), (17, [0, 3, 5, 7, 8]), (18, [0, 3, 5, 7, 8, 47]), (19, [2]), (20, [0, 3, 5, 7, 50]), (21, [2]), (22, [3, 5, 7, 9]), (23, [5, 7, 57]), (24, [2]), (25, [5, 7, 8]), (26, [7, 8]), (27, [7, 8, 62]), (28, [2]), (29, [65]), (30, [2]), (31, [2])], laws_FnExactSlotsFrom_L A c_24 c_25 c_26 c_31 c_49 c_50 A.fuel⟩
theorem laws_FnExactSlotsFrom_ok (A : PM.Prims) (c_24 : laws_eqIntS_T) (c_25 : laws_markIntS_T) (c_26 : laws_heldIntS_T) (c_31 : laws_toIntS_T) (c_49 : spec_SlotsFrom_T) (c_50 : impl_SlotsFrom_T) (__ : List Int) (k : PM.V → PM.R) : PM.pfun A cx [] (laws_FnExactSlotsFrom_E A c_24 c_25 c_26 c_31 c_49 c_50) Go.Proofs.Try.f13 [.arr (.ints 3 .i64 __)] k = laws_FnExactSlotsFrom_f A c_24 c_25 c_26 c_31 c_49 c_50 __ (fun r0 => k (.bool r0)) := by kernel_rfl

theorem laws_FnExactSlotsFrom_fn : PM.FnIs Try.prog 13 Try.f13 := .of Try.func13 (by kernel_rfl) (by kernel_rfl)
theorem laws_FnExactSlotsFrom_g : PM.GOk Try.prog cx 13 ⟨[], laws_FnExactSlotsFrom_w (laws_FnExactSlotsFrom PM.std)⟩ := by
  refine ⟨laws_FnExactSlotsFrom_fn.enter, fun _ ds k r h => ?_, fun hm => absurd rfl hm⟩
  change laws_FnExactSlotsFrom_w (laws_FnExactSlotsFrom PM.std) ds k = some r at h
  unfold laws_FnExactSlotsFrom_w at h
  split at h
  · exact PM.pfun_ok (E := laws_FnExactSlotsFrom_E PM.std (laws_eqIntS PM.std) (laws_markIntS PM.std) (laws_heldIntS PM.std) (laws_toIntS PM.std) (spec_SlotsFrom PM.std) (impl_SlotsFrom PM.std)) (L := fun n => laws_FnExactSlotsFrom_L PM.std (laws_eqIntS PM.std) (laws_markIntS PM.std) (laws_heldIntS PM.std) (laws_toIntS PM.std) (spec_SlotsFrom PM.std) (impl_SlotsFrom PM.std) n) (N := PM.std.fuel) cx_ok (.cons laws_eqIntS_g (.cons laws_markIntS_g (.cons laws_heldIntS_g (.cons laws_toIntS_g (.cons spec_SlotsFrom_g (.cons impl_SlotsFrom_g .nil)))))) mixed .nil laws_FnExactSlotsFrom_fn (by kernel_rfl) ⟨rfl, fun _ _ _ => rfl, fun n cur σ K r h => by cases h⟩
      ((laws_FnExactSlotsFrom_ok PM.std (laws_eqIntS PM.std) (laws_markIntS PM.std) (laws_heldIntS PM.std) (laws_toIntS PM.std) (spec_SlotsFrom PM.std) (impl_SlotsFrom PM.std) _ k).trans h)
  · cases h

abbrev spec_l16Copy_T := (List Int) → (Int) → ((List Int) → (Int) → PM.R) → PM.R
noncomputable def spec_l16Copy_w (c : spec_l16Copy_T) (ds : List PM.V) (k : PM.V → PM.R) : PM.R :=
  match ds with
  | [.agg [.arr (.ints 3 .i64 s_Slots), .int .i64 s_Count]] => c s_Slots s_Count (fun r0_Slots r0_Count => k (.agg [.arr (.ints 3 .i64 r0_Slots), .int .i64 r0_Count]))
  | _ => none
noncomputable def spec_l16Copy_f (A : PM.Prims) (c_83 : spec_l15Ints_T) (s_Slots : List Int) (s_Count : Int) (k : (List Int) → (Int) → PM.R) : PM.R :=
  c_83 s_Slots (fun r1 =>
    k r1 s_Count)
noncomputable def spec_l16Copy (A : PM.Prims) : spec_l16Copy_T := spec_l16Copy_f A (spec_l15Ints A)
noncomputable def spec_l16Copy_L (A : PM.Prims) (c_83 : spec_l15Ints_T) (n : Nat) : PM.Lam := fun cur σ K =>
  match cur, σ, K with
  | _, _, _ => none
noncomputable def spec_l16Copy_E (A : PM.Prims) (c_83 : spec_l15Ints_T) : PM.Env := ⟨[(83, ⟨[], spec_l15Ints_w c_83⟩)], [], [], [(0, [1, 2]), (1, [2])], spec_l16Copy_L A c_83 A.fuel⟩
theorem spec_l16Copy_ok (A : PM.Prims) (c_83 : spec_l15Ints_T) (s_Slots : List Int) (s_Count : Int) (k : PM.V → PM.R) : PM.pfun A cx [] (spec_l16Copy_E A c_83) Go.Proofs.Try.f90 [.agg [.arr (.ints 3 .i64 s_Slots), .int .i64 s_Count]] k = spec_l16Copy_f A c_83 s_Slots s_Count (fun r0_Slots r0_Count => k (.agg [.arr (.ints 3 .i64 r0_Slots), .int .i64 r0_Count])) := by kernel_rfl

theorem spec_l16Copy_fn : PM.FnIs Try.prog 90 Try.f90 := .of Try.func90 (by kernel_rfl) (by kernel_rfl)
theorem spec_l16Copy_g : PM.GOk Try.prog cx 90 ⟨[], spec_l16Copy_w (spec_l16Copy PM.std)⟩ := by
  refine ⟨spec_l16Copy_fn.enter, fun _ ds k r h => ?_, fun hm => absurd rfl hm⟩
  change spec_l16Copy_w (spec_l16Copy PM.std) ds k = some r at h
  unfold spec_l16Copy_w at h
  split at h
  · exact PM.pfun_ok (E := spec_l16Copy_E PM.std (spec_l15Ints PM.std)) (L := fun n => spec_l16Copy_L PM.std (spec_l15Ints PM.std) n) (N := PM.std.fuel) cx_ok (.cons spec_l15Ints_g .nil) mixed .nil spec_l16Copy_fn (by kernel_rfl) ⟨rfl, fun _ _ _ => rfl, fun n cur σ K r h => by cases h⟩
      ((spec_l16Copy_ok PM.std (spec_l15Ints PM.std) _ _ k).trans h)
  · cases h

abbrev spec_UndoOne_T := (List Int) → (Int) → (Int) → (Int) → (Int) → ((List Int) → (Int) → (Bool) → PM.R) → PM.R
noncomputable def spec_UndoOne_w (c : spec_UndoOne_T) (ds : List PM.V) (k : PM.V → PM.R) : PM.R :=
  match ds with
  | [.agg [.arr (.ints 3 .i64 ___Slots), .int .i64 ___Count], .agg [.int .i64 a_Kind, .int .i64 a_Key, .int .i64 a_Val]] => c ___Slots ___Count a_Kind a_Key a_Val (fun r0_Slots r0_Count r1 => k (.tup [.agg [.arr (.ints 3 .i64 r0_Slots), .int .i64 r0_Count], .bool r1]))
  | _ => none
noncomputable def spec_UndoOne_f (A : PM.Prims) (c_27 : spec_UndoOk_T) (c_39 : spec_ShelfOk_T) (c_43 : spec_SlotDrop_T) (c_47 : spec_SlotPut_T) (c_90 : spec_l16Copy_T) (___Slots : List Int) (___Count : Int) (a_Kind : Int) (a_Key : Int) (a_Val : Int) (k : (List Int) → (Int) → (Bool) → PM.R) : PM.R :=
  c_90 ___Slots ___Count (fun r1 r2 =>
    c_39 ___Slots ___Count (fun r3 =>
      bif (A.not r3) then
        k r1 r2 false
      else
        c_27 a_Kind a_Key a_Val (fun r4 =>
          bif (A.not r4) then
            k r1 r2 false
          else
            bif (A.eq a_Kind 1) then
              c_47 ___Slots a_Key a_Val (fun r5 r6 r7 =>
                k r5 r2 true)
            else
              bif (A.eq a_Kind 2) then
                c_43 ___Slots a_Key (fun r8 r9 r10 =>
                  k r8 r2 true)
              else
                bif (A.eq a_Kind 3) then
                  bif (A.nz 65536) then
                    k r1 (A.rem .i64 (A.add .i64 (A.sub .i64 ___Count a_Val) 65536) 65536) true
                  else
                    none
                else
                  k r1 r2 true)))
noncomputable def spec_UndoOne (A : PM.Prims) : spec_UndoOne_T := spec_UndoOne_f A (spec_UndoOk A) (spec_ShelfOk A) (spec_SlotDrop A) (spec_SlotPut A) (spec_l16Copy A)
noncomputable def spec_UndoOne_L (A : PM.Prims) (c_27 : spec_UndoOk_T) (c_39 : spec_ShelfOk_T) (c_43 : spec_SlotDrop_T) (c_47 : spec_SlotPut_T) (c_90 : spec_l16Copy_T) (n : Nat) : PM.Lam := fun cur σ K =>
  match cur, σ, K with
  | _, _, _ => none
noncomputable def spec_UndoOne_E (A : PM.Prims) (c_27 : spec_UndoOk_T) (c_39 : spec_ShelfOk_T) (c_43 : spec_SlotDrop_T) (c_47 : spec_SlotPut_T) (c_90 : spec_l16Copy_T) : PM.Env := ⟨[(27, ⟨[], spec_UndoOk_w c_27⟩), (39, ⟨[], spec_ShelfOk_w c_39⟩), (43, ⟨[], spec_SlotDrop_w c_43⟩), (47, ⟨[], spec_SlotPut_w c_47⟩), (90, ⟨[], spec_l16Copy_w c_90⟩)], [], [], [(0, [2, 3, 4]), (1, [2, 3, 4, 6]), (2, [2, 3, 4, 6, 22]), (3, [4, 5]), (4, [2, 3, 4, 6, 25]), (5, [2, 3, 4, 6, 25, 26]), (6, [4, 6, 7]), (7, [4, 6]), (8, [2, 3, 4, 6, 25, 41]), (9, [4, 6, 10]), (10, [4, 6]), (11, [2, 3, 4, 6, 54]), (12, [4, 6]), (13, [4, 5])], spec_UndoOne_L A c_27 c_39 c_43 c_47 c_90 A.fuel⟩
theorem spec_UndoOne_ok (A : PM.Prims) (c_27 : spec_UndoOk_T) (c_39 : spec_ShelfOk_T) (c_43 : spec_SlotDrop_T) (c_47 : spec_SlotPut_T) (c_90 : spec_l16Copy_T) (___Slots : List Int) (___Count : Int) (a_Kind : Int) (a_Key : Int) (a_Val : Int) (k : PM.V → PM.R) : PM.pfun A cx [] (spec_UndoOne_E A c_27 c_39 c_43 c_47 c_90) Go.Proofs.Try.f54 [.agg [.arr (.ints 3 .i64 ___Slots), .int .i64 ___Count], .agg [.int .i64 a_Kind, .int .i64 a_Key, .int .i64 a_Val]] k = spec_UndoOne_f A c_27 c_39 c_43 c_47 c_90 ___Slots ___Count a_Kind a_Key a_Val (fun r0_Slots r0_Count r1 => k (.tup [.agg [.arr (.ints 3 .i64 r0_Slots), .int .i64 r0_Count], .bool r1])) := by kernel_rfl

theorem spec_UndoOne_fn : PM.FnIs Try.prog 54 Try.f54 := .of Try.func54 (by kernel_rfl) (by kernel_rfl)
theorem spec_UndoOne_g : PM.GOk Try.prog cx 54 ⟨[], spec_UndoOne_w (spec_UndoOne PM.std)⟩ := by
  refine ⟨spec_UndoOne_fn.enter, fun _ ds k r h => ?_, fun hm => absurd rfl hm⟩
  change spec_UndoOne_w (spec_UndoOne PM.std) ds k = some r at h
  unfold spec_UndoOne_w at h
  split at h
  · exact PM.pfun_ok (E := spec_UndoOne_E PM.std (spec_UndoOk PM.std) (spec_ShelfOk PM.std) (spec_SlotDrop PM.std) (spec_SlotPut PM.std) (spec_l16Copy PM.std)) (L := fun n => spec_UndoOne_L PM.std (spec_UndoOk PM.std) (spec_ShelfOk PM.std) (spec_SlotDrop PM.std) (spec_SlotPut PM.std) (spec_l16Copy PM.std) n) (N := PM.std.fuel) cx_ok (.cons spec_UndoOk_g (.cons spec_ShelfOk_g (.cons spec_SlotDrop_g (.cons spec_SlotPut_g (.cons spec_l16Copy_g .nil))))) mixed .nil spec_UndoOne_fn (by kernel_rfl) ⟨rfl, fun _ _ _ => rfl, fun n cur σ K r h => by cases h⟩
      ((spec_UndoOne_ok PM.std (spec_UndoOk PM.std) (spec_ShelfOk PM.std) (spec_SlotDrop PM.std) (spec_SlotPut PM.std) (spec_l16Copy PM.std) _ _ _ _ _ k).trans h)
  · cases h

abbrev impl_copyShelf_T := (List Int) → (Int) → ((List Int) → (Int) → PM.R) → PM.R
noncomputable def impl_copyShelf_w (c : impl_copyShelf_T) (ds : List PM.V) (k : PM.V → PM.R) : PM.R :=
  match ds with
  | [.agg [.arr (.ints 3 .i64 s_Slots), .int .i64 s_Count]] => c s_Slots s_Count (fun r0_Slots r0_Count => k (.agg [.arr (.ints 3 .i64 r0_Slots), .int .i64 r0_Count]))
  | _ => none
noncomputable def impl_copyShelf_f (A : PM.Prims) (c_84 : impl_copyInts_T) (s_Slots : List Int) (s_Count : Int) (k : (List Int) → (Int) → PM.R) : PM.R :=
  c_84 s_Slots (fun r1 =>
    k r1 s_Count)
noncomputable def impl_copyShelf (A : PM.Prims) : impl_copyShelf_T := impl_copyShelf_f A (impl_copyInts A)
noncomputable def impl_copyShelf_L (A : PM.Prims) (c_84 : impl_copyInts_T) (n : Nat) : PM.Lam := fun cur σ K =>
  match cur, σ, K with
  | _, _, _ => none
noncomputable def impl_copyShelf_E (A : PM.Prims) (c_84 : impl_copyInts_T) : PM.Env := ⟨[(84, ⟨[], impl_copyInts_w c_84⟩)], [], [], [(0, [1, 2]), (1, [2])], impl_copyShelf_L A c_84 A.fuel⟩
theorem impl_copyShelf_ok (A : PM.Prims) (c_84 : impl_copyInts_T) (s_Slots : List Int) (s_Count : Int) (k : PM.V → PM.R) : PM.pfun A cx [] (impl_copyShelf_E A c_84) Go.Proofs.Try.f91 [.agg [.arr (.ints 3 .i64 s_Slots), .int .i64 s_Count]] k = impl_copyShelf_f A c_84 s_Slots s_Count (fun r0_Slots r0_Count => k (.agg [.arr (.ints 3 .i64 r0_Slots), .int .i64 r0_Count])) := by kernel_rfl

theorem impl_copyShelf_fn : PM.FnIs Try.prog 91 Try.f91 := .of Try.func91 (by kernel_rfl) (by kernel_rfl)
theorem impl_copyShelf_g : PM.GOk Try.prog cx 91 ⟨[], impl_copyShelf_w (impl_copyShelf PM.std)⟩ := by
  refine ⟨impl_copyShelf_fn.enter, fun _ ds k r h => ?_, fun hm => absurd rfl hm⟩
  change impl_copyShelf_w (impl_copyShelf PM.std) ds k = some r at h
  unfold impl_copyShelf_w at h
  split at h
  · exact PM.pfun_ok (E := impl_copyShelf_E PM.std (impl_copyInts PM.std)) (L := fun n => impl_copyShelf_L PM.std (impl_copyInts PM.std) n) (N := PM.std.fuel) cx_ok (.cons impl_copyInts_g .nil) mixed .nil impl_copyShelf_fn (by kernel_rfl) ⟨rfl, fun _ _ _ => rfl, fun n cur σ K r h => by cases h⟩
      ((impl_copyShelf_ok PM.std (impl_copyInts PM.std) _ _ k).trans h)
  · cases h

abbrev impl_UndoOne_T := (List Int) → (Int) → (Int) → (Int) → (Int) → ((List Int) → (Int) → (Bool) → PM.R) → PM.R
noncomputable def impl_UndoOne_w (c : impl_UndoOne_T) (ds : List PM.V) (k : PM.V → PM.R) : PM.R :=
  match ds with
  | [.agg [.arr (.ints 3 .i64 s_Slots), .int .i64 s_Count], .agg [.int .i64 u_Kind, .int .i64 u_Key, .int .i64 u_Val]] => c s_Slots s_Count u_Kind u_Key u_Val (fun r0_Slots r0_Count r1 => k (.tup [.agg [.arr (.ints 3 .i64 r0_Slots), .int .i64 r0_Count], .bool r1]))
  | _ => none
noncomputable def impl_UndoOne_f (A : PM.Prims) (c_29 : impl_UndoOk_T) (c_41 : impl_ShelfOk_T) (c_44 : impl_SlotDrop_T) (c_48 : impl_SlotPut_T) (c_91 : impl_copyShelf_T) (s_Slots : List Int) (s_Count : Int) (u_Kind : Int) (u_Key : Int) (u_Val : Int) (k : (List Int) → (Int) → (Bool) → PM.R) : PM.R :=
  c_91 s_Slots s_Count (fun r1 r2 =>
    c_41 r1 r2 (fun r3 =>
      bif (A.not r3) then
        k r1 r2 false
      else
        c_29 u_Kind u_Key u_Val (fun r4 =>
          bif (A.not r4) then
            k r1 r2 false
          else
            bif (A.eq u_Kind 1) then
              c_48 r1 u_Key u_Val (fun r5 r6 r7 =>
                k r5 r2 true)
            else
              bif (A.eq u_Kind 2) then
                c_44 r1 u_Key (fun r8 r9 r10 =>
                  k r8 r2 true)
              else
                bif (A.eq u_Kind 3) then
                  bif (A.nz 65536) then
                    k r1 (A.rem .i64 (A.add .i64 (A.sub .i64 r2 u_Val) 65536) 65536) true
                  else
                    none
                else
                  k r1 r2 true)))
noncomputable def impl_UndoOne (A : PM.Prims) : impl_UndoOne_T := impl_UndoOne_f A (impl_UndoOk A) (impl_ShelfOk A) (impl_SlotDrop A) (impl_SlotPut A) (impl_copyShelf A)
noncomputable def impl_UndoOne_L (A : PM.Prims) (c_29 : impl_UndoOk_T) (c_41 : impl_ShelfOk_T) (c_44 : impl_SlotDrop_T) (c_48 : impl_SlotPut_T) (c_91 : impl_copyShelf_T) (n : Nat) : PM.Lam := fun cur σ K =>
  match cur, σ, K with
  | _, _, _ => none
noncomputable def impl_UndoOne_E (A : PM.Prims) (c_29 : impl_UndoOk_T) (c_41 : impl_ShelfOk_T) (c_44 : impl_SlotDrop_T) (c_48 : impl_SlotPut_T) (c_91 : impl_copyShelf_T) : PM.Env := ⟨[(29, ⟨[], impl_UndoOk_w c_29⟩), (41, ⟨[], impl_ShelfOk_w c_41⟩), (44, ⟨[], impl_SlotDrop_w c_44⟩), (48, ⟨[], impl_SlotPut_w c_48⟩), (91, ⟨[], impl_copyShelf_w c_91⟩)], [], [], [(0, [2, 3, 4]), (1, [2, 3, 4]), (2, [2, 3, 4, 15]), (3, [4, 5]), (4, [2, 3, 4, 18]), (5, [2, 3, 4, 18, 19]), (6, [2, 4]), (7, [2, 3, 4, 18, 33]), (8, [2, 4]), (9, [2, 3, 4, 45]), (10, [2, 4]), (11, [4, 5])], impl_UndoOne_L A c_29 c_41 c_44 c_48 c_91 A.fuel⟩
theorem impl_UndoOne_ok (A : PM.Prims) (c_29 : impl_UndoOk_T) (c_41 : impl_ShelfOk_T) (c_44 : impl_SlotDrop_T) (c_48 : impl_SlotPut_T) (c_91 : impl_copyShelf_T) (s_Slots : List Int) (s_Count : Int) (u_Kind : Int) (u_Key : Int) (u_Val : Int) (k : PM.V → PM.R) : PM.pfun A cx [] (impl_UndoOne_E A c_29 c_41 c_44 c_48 c_91) Go.Proofs.Try.f55 [.agg [.arr (.ints 3 .i64 s_Slots), .int .i64 s_Count], .agg [.int .i64 u_Kind, .int .i64 u_Key, .int .i64 u_Val]] k = impl_UndoOne_f A c_29 c_41 c_44 c_48 c_91 s_Slots s_Count u_Kind u_Key u_Val (fun r0_Slots r0_Count r1 => k (.tup [.agg [.arr (.ints 3 .i64 r0_Slots), .int .i64 r0_Count], .bool r1])) := by kernel_rfl

theorem impl_UndoOne_fn : PM.FnIs Try.prog 55 Try.f55 := .of Try.func55 (by kernel_rfl) (by kernel_rfl)
theorem impl_UndoOne_g : PM.GOk Try.prog cx 55 ⟨[], impl_UndoOne_w (impl_UndoOne PM.std)⟩ := by
  refine ⟨impl_UndoOne_fn.enter, fun _ ds k r h => ?_, fun hm => absurd rfl hm⟩
  change impl_UndoOne_w (impl_UndoOne PM.std) ds k = some r at h
  unfold impl_UndoOne_w at h
  split at h
  · exact PM.pfun_ok (E := impl_UndoOne_E PM.std (impl_UndoOk PM.std) (impl_ShelfOk PM.std) (impl_SlotDrop PM.std) (impl_SlotPut PM.std) (impl_copyShelf PM.std)) (L := fun n => impl_UndoOne_L PM.std (impl_UndoOk PM.std) (impl_ShelfOk PM.std) (impl_SlotDrop PM.std) (impl_SlotPut PM.std) (impl_copyShelf PM.std) n) (N := PM.std.fuel) cx_ok (.cons impl_UndoOk_g (.cons impl_ShelfOk_g (.cons impl_SlotDrop_g (.cons impl_SlotPut_g (.cons impl_copyShelf_g .nil))))) mixed .nil impl_UndoOne_fn (by kernel_rfl) ⟨rfl, fun _ _ _ => rfl, fun n cur σ K r h => by cases h⟩
      ((impl_UndoOne_ok PM.std (impl_UndoOk PM.std) (impl_ShelfOk PM.std) (impl_SlotDrop PM.std) (impl_SlotPut PM.std) (impl_copyShelf PM.std) _ _ _ _ _ k).trans h)
  · cases h

abbrev laws_markShelf_T := (List Int) → (Int) → (Int) → ((Int) → (List Int) → PM.R) → PM.R
noncomputable def laws_markShelf_w (c : laws_markShelf_T) (ds : List PM.V) (k : PM.V → PM.R) : PM.R :=
  match ds with
  | [.agg [.arr (.ints 3 .i64 a_Slots), .int .i64 a_Count], .int .i64 k_] => c a_Slots a_Count k_ (fun r0 o0_Slots => k (.tup [.int .i64 r0, .arr (.ints 3 .i64 o0_Slots)]))
  | _ => none
noncomputable def laws_markShelf_f (A : PM.Prims) (c_25 : laws_markIntS_T) (a_Slots : List Int) (a_Count : Int) (k_ : Int) (k : (Int) → (List Int) → PM.R) : PM.R :=
  c_25 a_Slots k_ (fun r1 r2 =>
    k r1 r2)
noncomputable def laws_markShelf (A : PM.Prims) : laws_markShelf_T := laws_markShelf_f A (laws_markIntS A)
noncomputable def laws_markShelf_L (A : PM.Prims) (c_25 : laws_markIntS_T) (n : Nat) : PM.Lam := fun cur σ K =>
  match cur, σ, K with
  | _, _, _ => none
noncomputable def laws_markShelf_E (A : PM.Prims) (c_25 : laws_markIntS_T) : PM.Env := ⟨[(25, ⟨[true, false], laws_markIntS_w c_25⟩)], [], [], [(0, [0, 1, 2]), (1, [0, 1]), (2, [0, 4])], laws_markShelf_L A c_25 A.fuel⟩
theorem laws_markShelf_ok (A : PM.Prims) (c_25 : laws_markIntS_T) (a_Slots : List Int) (a_Count : Int) (k_ : Int) (k : PM.V → PM.R) : PM.pfun A cx [true, false] (laws_markShelf_E A c_25) Go.Proofs.Try.f56 [.agg [.arr (.ints 3 .i64 a_Slots), .int .i64 a_Count], .int .i64 k_] k = laws_markShelf_f A c_25 a_Slots a_Count k_ (fun r0 o0_Slots => k (.tup [.int .i64 r0, .arr (.ints 3 .i64 o0_Slots)])) := by kernel_rfl

theorem laws_markShelf_fn : PM.FnIs Try.prog 56 Try.f56 := .of Try.func56 (by kernel_rfl) (by kernel_rfl)
theorem laws_markShelf_g : PM.GOk Try.prog cx 56 ⟨[true, false], laws_markShelf_w (laws_markShelf PM.std)⟩ := by
  refine ⟨laws_markShelf_fn.enter, fun hm => (by cases hm), fun _ ds k r h => ?_⟩
  change laws_markShelf_w (laws_markShelf PM.std) ds k = some r at h
  unfold laws_markShelf_w at h
  split at h
  · exact PM.pfun_okM (List.cons_ne_nil _ _) (E := laws_markShelf_E PM.std (laws_markIntS PM.std)) (L := fun n => laws_markShelf_L PM.std (laws_markIntS PM.std) n) (N := PM.std.fuel) cx_ok (.cons laws_markIntS_g .nil) mixed .nil laws_markShelf_fn (by kernel_rfl) ⟨rfl, fun _ _ _ => rfl, fun n cur σ K r h => by cases h⟩
      ((laws_markShelf_ok PM.std (laws_markIntS PM.std) _ _ _ k).trans h)
  · cases h

abbrev laws_heldShelf_T := (List Int) → (Int) → (Int) → ((Int) → PM.R) → PM.R
noncomputable def laws_heldShelf_w (c : laws_heldShelf_T) (ds : List PM.V) (k : PM.V → PM.R) : PM.R :=
  match ds with
  | [.agg [.arr (.ints 3 .i64 a_Slots), .int .i64 a_Count], .int .i64 k_] => c a_Slots a_Count k_ (fun r0 => k (.int .i64 r0))
  | _ => none
noncomputable def laws_heldShelf_f (A : PM.Prims) (c_26 : laws_heldIntS_T) (a_Slots : List Int) (a_Count : Int) (k_ : Int) (k : (Int) → PM.R) : PM.R :=
  c_26 a_Slots k_ (fun r1 =>
    bif (A.lt r1 0) then
      k (-1)
    else
      k r1)
noncomputable def laws_heldShelf (A : PM.Prims) : laws_heldShelf_T := laws_heldShelf_f A (laws_heldIntS A)
noncomputable def laws_heldShelf_L (A : PM.Prims) (c_26 : laws_heldIntS_T) (n : Nat) : PM.Lam := fun cur σ K =>
  match cur, σ, K with
  | _, _, _ => none
noncomputable def laws_heldShelf_E (A : PM.Prims) (c_26 : laws_heldIntS_T) : PM.Env := ⟨[(26, ⟨[], laws_heldIntS_w c_26⟩)], [], [], [(0, [1, 2]), (1, [1]), (2, [1, 10]), (3, [4]), (4, [4])], laws_heldShelf_L A c_26 A.fuel⟩
theorem laws_heldShelf_ok (A : PM.Prims) (c_26 : laws_heldIntS_T) (a_Slots : List Int) (a_Count : Int) (k_ : Int) (k : PM.V → PM.R) : PM.pfun A cx [] (laws_heldShelf_E A c_26) Go.Proofs.Try.f57 [.agg [.arr (.ints 3 .i64 a_Slots), .int .i64 a_Count], .int .i64 k_] k = laws_heldShelf_f A c_26 a_Slots a_Count k_ (fun r0 => k (.int .i64 r0)) := by kernel_rfl

theorem laws_heldShelf_fn : PM.FnIs Try.prog 57 Try.f57 := .of Try.func57 (by kernel_rfl) (by kernel_rfl)
theorem laws_heldShelf_g : PM.GOk Try.prog cx 57 ⟨[], laws_heldShelf_w (laws_heldShelf PM.std)⟩ := by
  refine ⟨laws_heldShelf_fn.enter, fun _ ds k r h => ?_, fun hm => absurd rfl hm⟩
  change laws_heldShelf_w (laws_heldShelf PM.std) ds k = some r at h
  unfold laws_heldShelf_w at h
  split at h
  · exact PM.pfun_ok (E := laws_heldShelf_E PM.std (laws_heldIntS PM.std)) (L := fun n => laws_heldShelf_L PM.std (laws_heldIntS PM.std) n) (N := PM.std.fuel) cx_ok (.cons laws_heldIntS_g .nil) mixed .nil laws_heldShelf_fn (by kernel_rfl) ⟨rfl, fun _ _ _ => rfl, fun n cur σ K r h => by cases h⟩
      ((laws_heldShelf_ok PM.std (laws_heldIntS PM.std) _ _ _ k).trans h)
  · cases h

abbrev laws_FnExactUndoOne_T := (List Int) → (Int) → (Int) → (Int) → (Int) → ((Bool) → PM.R) → PM.R
noncomputable def laws_FnExactUndoOne_w (c : laws_FnExactUndoOne_T) (ds : List PM.V) (k : PM.V → PM.R) : PM.R :=
  match ds with
  | [.agg [.arr (.ints 3 .i64 ___Slots), .int .i64 ___Count], .agg [.int .i64 a_Kind, .int .i64 a_Key, .int .i64 a_Val]] => c ___Slots ___Count a_Kind a_Key a_Val (fun r0 => k (.bool r0))
  | _ => none
noncomputable def laws_FnExactUndoOne_f (A : PM.Prims) (c_28 : laws_toUndo_T) (c_38 : laws_szShelf_T) (c_40 : laws_toShelf_T) (c_42 : laws_eqShelf_T) (c_54 : spec_UndoOne_T) (c_55 : impl_UndoOne_T) (c_56 : laws_markShelf_T) (c_57 : laws_heldShelf_T) (___Slots : List Int) (___Count : Int) (a_Kind : Int) (a_Key : Int) (a_Val : Int) (k : (Bool) → PM.R) : PM.R :=
  c_38 ___Slots ___Count 1048576 (fun r1 =>
    bif (A.lt r1 0) then
      k true
    else
      c_40 ___Slots ___Count (fun r2 r3 =>
        c_28 a_Kind a_Key a_Val (fun r4 r5 r6 =>
          c_54 r2 r3 r4 r5 r6 (fun r7 r8 r9 =>
            c_40 ___Slots ___Count (fun r10 r11 =>
              c_28 a_Kind a_Key a_Val (fun r12 r13 r14 =>
                c_55 r10 r11 r12 r13 r14 (fun r15 r16 r17 =>
                  c_42 r15 r16 r7 r8 (fun r18 =>
                    bif (A.not r18) then
                      k false
                    else
                      bif (A.not (A.beq r17 r9)) then
                        k false
                      else
                        c_40 ___Slots ___Count (fun r19 r20 =>
                          c_42 r10 r11 r19 r20 (fun r21 =>
                            bif (A.not r21) then
                              k false
                            else
                              c_56 r10 r11 1 (fun r22 r23 =>
                                bif (A.lt r22 0) then
                                  k false
                                else
                                  c_42 r15 r16 r7 r8 (fun r24 =>
                                    bif (A.not r24) then
                                      k false
                                    else
                                      bif (A.not (A.beq r17 r9)) then
                                        k false
                                      else
                                        c_56 r15 r16 1 (fun r25 r26 =>
                                          c_57 r26 r16 1 (fun r27 =>
                                            bif (A.lt r27 0) then
                                              k false
                                            else
                                              bif (A.not (A.eq r27 r25)) then
                                                k false
                                              else
                                                c_40 ___Slots ___Count (fun r28 r29 =>
                                                  c_28 a_Kind a_Key a_Val (fun r30 r31 r32 =>
                                                    c_55 r28 r29 r30 r31 r32 (fun r33 r34 r35 =>
                                                      c_42 r33 r34 r7 r8 (fun r36 =>
                                                        bif (A.not r36) then
                                                          k false
                                                        else
                                                          bif (A.not (A.beq r35 r9)) then
                                                            k false
                                                          else
                                                            c_57 r26 r16 1 (fun r37 =>
                                                              bif (A.lt r37 0) then
                                                                k false
                                                              else
                                                                bif (A.not (A.eq r37 r25)) then
                                                                  k false
                                                                else
                                                                  k true)))))))))))))))))))
noncomputable def laws_FnExactUndoOne (A : PM.Prims) : laws_FnExactUndoOne_T := laws_FnExactUndoOne_f A (laws_toUndo A) (laws_szShelf A) (laws_toShelf A) (laws_eqShelf A) (spec_UndoOne A) (impl_UndoOne A) (laws_markShelf A) (laws_heldShelf A)
noncomputable def laws_FnExactUndoOne_L (A : PM.Prims) (c_28 : laws_toUndo_T) (c_38 : laws_szShelf_T) (c_40 : laws_toShelf_T) (c_42 : laws_eqShelf_T) (c_54 : spec_UndoOne_T) (c_55 : impl_UndoOne_T) (c_56 : laws_markShelf_T) (c_57 : laws_heldShelf_T) (n : Nat) : PM.Lam := fun cur σ K =>
  match cur, σ, K with
  | _, _, _ => none
noncomputable def laws_FnExactUndoOne_E (A : PM.Prims) (c_28 : laws_toUndo_T) (c_38 : laws_szShelf_T) (c_40 : laws_toShelf_T) (c_42 : laws_eqShelf_T) (c_54 : spec_UndoOne_T) (c_55 : impl_UndoOne_T) (c_56 : laws_markShelf_T) (c_57 : laws_heldShelf_T) : PM.Env := ⟨[(28, ⟨[], laws_toUndo_w c_28⟩), (38, ⟨[], laws_szShelf_w c_38⟩), (40, ⟨[], laws_toShelf_w c_40⟩), (42, ⟨[], laws_eqShelf_w c_42⟩), (54, ⟨[], spec_UndoOne_w c_54⟩), (55, ⟨[], impl_UndoOne_w c_55⟩), (56, ⟨[true, false], laws_markShelf_w c_56⟩), (57, ⟨[], laws_heldShelf_w c_57⟩)], [], [], [(0, [2, 3]), (1, [2, 3, 5]), (2, [2, 3, 5]), (3, [2, 3, 20]), (4, [4]), (5, [2, 3, 6, 7]), (6, [2, 3, 6, 7, 8]), (7, [2, 3, 6, 7, 8, 9, 10]), (8, [2, 3, 6, 7, 8, 9, 10, 46]), (9, [4]), (10, [2, 3, 6, 7, 8, 9, 10, 51]), (11, [4]), (12, [2, 3, 6, 7, 8, 9, 10, 11]), (13, [2, 3, 6, 7, 9, 10, 11]), (14, [2, 3, 6, 7, 9, 67]), (15, [4]), (16, [2, 3, 6, 7, 9, 12]), (17, [2, 3, 6, 7, 9, 12]), (18, [2, 3, 6, 7, 9, 12, 13]), (19, [2, 3, 6, 7, 9, 12, 13]), (20, [2, 3, 6, 7, 9, 12, 13, 75]), (21, [4]), (22, [2, 3, 6, 7, 9, 12, 78]), (23, [4]), (24, [6, 7, 9, 12, 14, 15]), (25, [9, 12, 95]), (26, [4]), (27, [9, 12, 13]), (28, [12, 13]), (29, [12, 13, 100]), (30, [4]), (31, [103]), (32, [4]), (33, [4])], laws_FnExactUndoOne_L A c_28 c_38 c_40 c_42 c_54 c_55 c_56 c_57 A.fuel⟩
theorem laws_FnExactUndoOne_ok (A : PM.Prims) (c_28 : laws_toUndo_T) (c_38 : laws_szShelf_T) (c_40 : laws_toShelf_T) (c_42 : laws_eqShelf_T) (c_54 : spec_UndoOne_T) (c_55 : impl_UndoOne_T) (c_56 : laws_markShelf_T) (c_57 : laws_heldShelf_T) (___Slots : List Int) (___Count : Int) (a_Kind : Int) (a_Key : Int) (a_Val : Int) (k : PM.V → PM.R) : PM.pfun A cx [] (laws_FnExactUndoOne_E A c_28 c_38 c_40 c_42 c_54 c_55 c_56 c_57) Go.Proofs.Try.f15 [.agg [.arr (.ints 3 .i64 ___Slots), .int .i64 ___Count], .agg [.int .i64 a_Kind, .int .i64 a_Key, .int .i64 a_Val]] k = laws_FnExactUndoOne_f A c_28 c_38 c_40 c_42 c_54 c_55 c_56 c_57 ___Slots ___Count a_Kind a_Key a_Val (fun r0 => k (.bool r0)) := by kernel_rfl

theorem laws_FnExactUndoOne_fn : PM.FnIs Try.prog 15 Try.f15 := .of Try.func15 (by kernel_rfl) (by kernel_rfl)
theorem laws_FnExactUndoOne_g : PM.GOk Try.prog cx 15 ⟨[], laws_FnExactUndoOne_w (laws_FnExactUndoOne PM.std)⟩ := by
  refine ⟨laws_FnExactUndoOne_fn.enter, fun _ ds k r h => ?_, fun hm => absurd rfl hm⟩
  change laws_FnExactUndoOne_w (laws_FnExactUndoOne PM.std) ds k = some r at h
  unfold laws_FnExactUndoOne_w at h
  split at h
  · exact PM.pfun_ok (E := laws_FnExactUndoOne_E PM.std (laws_toUndo PM.std) (laws_szShelf PM.std) (laws_toShelf PM.std) (laws_eqShelf PM.std) (spec_UndoOne PM.std) (impl_UndoOne PM.std) (laws_markShelf PM.std) (laws_heldShelf PM.std)) (L := fun n => laws_FnExactUndoOne_L PM.std (laws_toUndo PM.std) (laws_szShelf PM.std) (laws_toShelf PM.std) (laws_eqShelf PM.std) (spec_UndoOne PM.std) (impl_UndoOne PM.std) (laws_markShelf PM.std) (laws_heldShelf PM.std) n) (N := PM.std.fuel) cx_ok (.cons laws_toUndo_g (.cons laws_szShelf_g (.cons laws_toShelf_g (.cons laws_eqShelf_g (.cons spec_UndoOne_g (.cons impl_UndoOne_g (.cons laws_markShelf_g (.cons laws_heldShelf_g .nil)))))))) mixed .nil laws_FnExactUndoOne_fn (by kernel_rfl) ⟨rfl, fun _ _ _ => rfl, fun n cur σ K r h => by cases h⟩
      ((laws_FnExactUndoOne_ok PM.std (laws_toUndo PM.std) (laws_szShelf PM.std) (laws_toShelf PM.std) (laws_eqShelf PM.std) (spec_UndoOne PM.std) (impl_UndoOne PM.std) (laws_markShelf PM.std) (laws_heldShelf PM.std) _ _ _ _ _ k).trans h)
  · cases h

abbrev laws_szUndoS_T := (List (List Int)) → (Int) → ((Int) → PM.R) → PM.R
noncomputable def laws_szUndoS_w (c : laws_szUndoS_T) (ds : List PM.V) (k : PM.V → PM.R) : PM.R :=
  match ds with
  | [.arr (.vecs 30 3 a), .int .i64 left] => c a left (fun r0 => k (.int .i64 r0))
  | _ => none
noncomputable def laws_szUndoS_f (A : PM.Prims) (a : List (List Int)) (left : Int) (k : (Int) → PM.R) : PM.R :=
  bif (A.lt (A.sub .i64 left (A.vlen a)) 0) then
    k (-1)
  else
    k (A.sub .i64 left (A.vlen a))
noncomputable def laws_szUndoS (A : PM.Prims) : laws_szUndoS_T := laws_szUndoS_f A
noncomputable def laws_szUndoS_L (A : PM.Prims) (n : Nat) : PM.Lam := fun cur σ K =>
  match cur, σ, K with
  | _, _, _ => none
noncomputable def laws_szUndoS_E (A : PM.Prims) : PM.Env := ⟨[], [], [], [(0, [0, 1]), (1, [1]), (2, [1, 10]), (3, [4]), (4, [4])], laws_szUndoS_L A A.fuel⟩
theorem laws_szUndoS_ok (A : PM.Prims) (a : List (List Int)) (left : Int) (k : PM.V → PM.R) : PM.pfun A cx [] (laws_szUndoS_E A) Go.Proofs.Try.f58 [.arr (.vecs 30 3 a), .int .i64 left] k = laws_szUndoS_f A a left (fun r0 => k (.int .i64 r0)) := by kernel_rfl

theorem laws_szUndoS_fn : PM.FnIs Try.prog 58 Try.f58 := .of Try.func58 (by kernel_rfl) (by kernel_rfl)
theorem laws_szUndoS_g : PM.GOk Try.prog cx 58 ⟨[], laws_szUndoS_w (laws_szUndoS PM.std)⟩ := by
  refine ⟨laws_szUndoS_fn.enter, fun _ ds k r h => ?_, fun hm => absurd rfl hm⟩
  change laws_szUndoS_w (laws_szUndoS PM.std) ds k = some r at h
  unfold laws_szUndoS_w at h
  split at h
  · exact PM.pfun_ok (E := laws_szUndoS_E PM.std) (L := fun n => laws_szUndoS_L PM.std n) (N := PM.std.fuel) cx_ok .nil mixed .nil laws_szUndoS_fn (by kernel_rfl) ⟨rfl, fun _ _ _ => rfl, fun n cur σ K r h => by cases h⟩
      ((laws_szUndoS_ok PM.std _ _ k).trans h)
  · cases h

abbrev laws_toUndoS_T := (List (List Int)) → ((List (List Int)) → PM.R) → PM.R
noncomputable def laws_toUndoS_w (c : laws_toUndoS_T) (ds : List PM.V) (k : PM.V → PM.R) : PM.R :=
  match ds with
  | [.arr (.vecs 30 3 a)] => c a (fun r0 => k (.arr (.vecs 32 3 r0)))
  | _ => none
noncomputable def laws_toUndoS_l0 (A : PM.Prims) (c_28 : laws_toUndo_T) : Nat → (List (List Int)) → (Int) → (List (List Int)) → ((List (List Int)) → PM.R) → PM.R
  | 0, _, _, _, _ => none
  | n + 1, a1, i2, o03, kx0_0 =>
    bif (A.lt i2 (A.vlen a1)) then
      bif (A.inb i2 (A.vlen a1)) then
        c_28 (A.vget a1 i2 0) (A.vget a1 i2 1) (A.vget a1 i2 2) (fun r4 r5 r6 =>
          bif (A.inb i2 (A.vlen o03)) then
            laws_toUndoS_l0 A c_28 n a1 (A.add .i64 i2 1) (A.vput o03 i2 [r4, r5, r6]) kx0_0
          else
            none)
      else
        none
    else
      kx0_0 o03
noncomputable def laws_toUndoS_f (A : PM.Prims) (c_28 : laws_toUndo_T) (a : List (List Int)) (k : (List (List Int)) → PM.R) : PM.R :=
  bif (A.mkOk (A.vlen a)) then
    bif (A.le (A.vlen a) (A.vlen a)) then
      bif (A.mkOk (A.vlen a)) then
        laws_toUndoS_l0 A c_28 A.fuel a 0 (A.vzero 3 (A.vlen a)) (fun o078 =>
          k o078)
      else
        none
    else
      none
  else
    none
noncomputable def laws_toUndoS (A : PM.Prims) : laws_toUndoS_T := laws_toUndoS_f A (laws_toUndo A)
noncomputable def laws_toUndoS_L (A : PM.Prims) (c_28 : laws_toUndo_T) (n : Nat) : PM.Lam := fun cur σ K =>
  match cur, σ, K with
  | 0, ⟨[(0, .arr (.vecs 30 3 a1)), (3, .sref 0), (4, .int .i64 i2)], [(0, .arr true (.vecs 32 3 o03))]⟩, K => laws_toUndoS_l0 A c_28 n a1 i2 o03 (fun o07 => K (.exit 0) ⟨[(3, .sref 0)], [(0, .arr true (.vecs 32 3 o07))]⟩)
  | _, _, _ => none
noncomputable def laws_toUndoS_E (A : PM.Prims) (c_28 : laws_toUndo_T) : PM.Env := ⟨[(28, ⟨[], laws_toUndo_w c_28⟩)], [], [(0, [0, 3, 4], [2, 3])], [(0, [0]), (1, [0, 3]), (2, [0, 3, 4]), (3, [0, 3, 4, 11]), (4, [0, 3, 4]), (5, [0, 3, 4]), (6, [2])], laws_toUndoS_L A c_28 A.fuel⟩
theorem laws_toUndoS_l0_ok (A : PM.Prims) (c_28 : laws_toUndo_T) (n : Nat) (a1 : List (List Int)) (i2 : Int) (o03 : List (List Int)) (K : Go.Exit → PM.S → PM.R) : laws_toUndoS_L A c_28 (n + 1) 0 ⟨[(0, .arr (.vecs 30 3 a1)), (3, .sref 0), (4, .int .i64 i2)], [(0, .arr true (.vecs 32 3 o03))]⟩ K = PM.roundF A cx (PM.runD A cx (laws_toUndoS_E A c_28).inl (laws_toUndoS_E A c_28).Γ 3) (laws_toUndoS_E A c_28) (laws_toUndoS_L A c_28 n) 0 Go.Proofs.Try.f60 ⟨[(0, .arr (.vecs 30 3 a1)), (3, .sref 0), (4, .int .i64 i2)], [(0, .arr true (.vecs 32 3 o03))]⟩ K := by kernel_rfl
theorem laws_toUndoS_ok (A : PM.Prims) (c_28 : laws_toUndo_T) (a : List (List Int)) (k : PM.V → PM.R) : PM.pfun A cx [] (laws_toUndoS_E A c_28) Go.Proofs.Try.f60 [.arr (.vecs 30 3 a)] k = laws_toUndoS_f A c_28 a (fun r0 => k (.arr (.vecs 32 3 r0))) := by kernel_rfl

theorem laws_toUndoS_fn : PM.FnIs Try.prog 60 Try.f60 := .of Try.func60 (by kernel_rfl) (by kernel_rfl)
theorem laws_toUndoS_g : PM.GOk Try.prog cx 60 ⟨[], laws_toUndoS_w (laws_toUndoS PM.std)⟩ := by
  refine ⟨laws_toUndoS_fn.enter, fun _ ds k r h => ?_, fun hm => absurd rfl hm⟩
  change laws_toUndoS_w (laws_toUndoS PM.std) ds k = some r at h
  unfold laws_toUndoS_w at h
  split at h
  · exact PM.pfun_ok (E := laws_toUndoS_E PM.std (laws_toUndo PM.std)) (L := fun n => laws_toUndoS_L PM.std (laws_toUndo PM.std) n) (N := PM.std.fuel) cx_ok (.cons laws_toUndo_g .nil) mixed .nil laws_toUndoS_fn (by kernel_rfl) ⟨rfl, fun cur σ K => by
      dsimp only [laws_toUndoS_L]
      split <;> rfl, fun n cur σ K r h => by
      dsimp only [laws_toUndoS_L] at h
      split at h
      · exact (laws_toUndoS_l0_ok PM.std (laws_toUndo PM.std) n _ _ _ K).symm.trans h
      · cases h⟩
      ((laws_toUndoS_ok PM.std (laws_toUndo PM.std) _ k).trans h)
  · cases h

abbrev spec_UndoAll_T := (List Int) → (Int) → (List (List Int)) → ((List Int) → (Int) → PM.R) → PM.R
noncomputable def spec_UndoAll_w (c : spec_UndoAll_T) (ds : List PM.V) (k : PM.V → PM.R) : PM.R :=
  match ds with
  | [.agg [.arr (.ints 3 .i64 s_Slots), .int .i64 s_Count], .arr (.vecs 32 3 l)] => c s_Slots s_Count l (fun r0_Slots r0_Count => k (.agg [.arr (.ints 3 .i64 r0_Slots), .int .i64 r0_Count]))
  | _ => none
noncomputable def spec_UndoAll_l0 (A : PM.Prims) (c_90 : spec_l16Copy_T) (c_54 : spec_UndoOne_T) : Nat → (List (List Int)) → (Int) → (Int) → (Int) → (List Int) → (List Int) → ((Int) → (Int) → (List Int) → (List Int) → PM.R) → PM.R
  | 0, _, _, _, _, _, _, _ => none
  | n + 1, l3, i4, o05, o16, o27, o38, kx0_0 =>
    bif (A.le 0 i4) then
      bif (A.inb i4 (A.vlen l3)) then
        c_54 o38 o16 (A.vget l3 i4 0) (A.vget l3 i4 1) (A.vget l3 i4 2) (fun r9 r10 r11 =>
          spec_UndoAll_l0 A c_90 c_54 n l3 (A.sub .i64 i4 1) o05 r10 o27 r9 kx0_0)
      else
        none
    else
      kx0_0 o05 o16 o27 o38
noncomputable def spec_UndoAll_f (A : PM.Prims) (c_90 : spec_l16Copy_T) (c_54 : spec_UndoOne_T) (s_Slots : List Int) (s_Count : Int) (l : List (List Int)) (k : (List Int) → (Int) → PM.R) : PM.R :=
  c_90 s_Slots s_Count (fun r1 r2 =>
    spec_UndoAll_l0 A c_90 c_54 A.fuel l (A.sub .i64 (A.vlen l) 1) 0 r2 [] r1 (fun o01216 o11317 o21418 o31519 =>
      k o31519 o11317))
noncomputable def spec_UndoAll (A : PM.Prims) : spec_UndoAll_T := spec_UndoAll_f A (spec_l16Copy A) (spec_UndoOne A)
noncomputable def spec_UndoAll_L (A : PM.Prims) (c_90 : spec_l16Copy_T) (c_54 : spec_UndoOne_T) (n : Nat) : PM.Lam := fun cur σ K =>
  match cur, σ, K with
  | 0, ⟨[(1, .arr (.vecs 32 3 l3)), (4, .pbox 0 0), (5, .pbox 1 0), (6, .int .i64 i4)], [(0, .box [.sref 2, .int .i64 o05]), (1, .box [.sref 3, .int .i64 o16]), (2, .arr true (.ints 3 .i64 o27)), (3, .arr true (.ints 3 .i64 o38))]⟩, K => spec_UndoAll_l0 A c_90 c_54 n l3 i4 o05 o16 o27 o38 (fun o012 o113 o214 o315 => K (.exit 0) ⟨[(4, .pbox 0 0), (5, .pbox 1 0)], [(0, .box [.sref 2, .int .i64 o012]), (1, .box [.sref 3, .int .i64 o113]), (2, .arr true (.ints 3 .i64 o214)), (3, .arr true (.ints 3 .i64 o315))]⟩)
  | _, _, _ => none
noncomputable def spec_UndoAll_E (A : PM.Prims) (c_90 : spec_l16Copy_T) (c_54 : spec_UndoOne_T) : PM.Env := ⟨[(90, ⟨[], spec_l16Copy_w c_90⟩), (54, ⟨[], spec_UndoOne_w c_54⟩)], [], [(0, [1, 4, 5, 6], [4, 5])], [(0, [1, 2, 4]), (1, [1, 4, 5]), (2, [1, 4, 5, 6]), (3, [1, 4, 5, 6, 15]), (4, [1, 4, 5, 6]), (5, [1, 4, 5, 6, 7]), (6, [1, 4, 5, 6]), (7, [4])], spec_UndoAll_L A c_90 c_54 A.fuel⟩
theorem spec_UndoAll_l0_ok (A : PM.Prims) (c_90 : spec_l16Copy_T) (c_54 : spec_UndoOne_T) (n : Nat) (l3 : List (List Int)) (i4 : Int) (o05 : Int) (o16 : Int) (o27 : List Int) (o38 : List Int) (K : Go.Exit → PM.S → PM.R) : spec_UndoAll_L A c_90 c_54 (n + 1) 0 ⟨[(1, .arr (.vecs 32 3 l3)), (4, .pbox 0 0), (5, .pbox 1 0), (6, .int .i64 i4)], [(0, .box [.sref 2, .int .i64 o05]), (1, .box [.sref 3, .int .i64 o16]), (2, .arr true (.ints 3 .i64 o27)), (3, .arr true (.ints 3 .i64 o38))]⟩ K = PM.roundF A cx (PM.runD A cx (spec_UndoAll_E A c_90 c_54).inl (spec_UndoAll_E A c_90 c_54).Γ 3) (spec_UndoAll_E A c_90 c_54) (spec_UndoAll_L A c_90 c_54 n) 0 Go.Proofs.Try.f59 ⟨[(1, .arr (.vecs 32 3 l3)), (4, .pbox 0 0), (5, .pbox 1 0), (6, .int .i64 i4)], [(0, .box [.sref 2, .int .i64 o05]), (1, .box [.sref 3, .int .i64 o16]), (2, .arr true (.ints 3 .i64 o27)), (3, .arr true (.ints 3 .i64 o38))]⟩ K := by kernel_rfl
theorem spec_UndoAll_ok (A : PM.Prims) (c_90 : spec_l16Copy_T) (c_54 : spec_UndoOne_T) (s_Slots : List Int) (s_Count : Int) (l : List (List Int)) (k : PM.V → PM.R) : PM.pfun A cx [] (spec_UndoAll_E A c_90 c_54) Go.Proofs.Try.f59 [.agg [.arr (.ints 3 .i64 s_Slots), .int .i64 s_Count], .arr (.vecs 32 3 l)] k = spec_UndoAll_f A c_90 c_54 s_Slots s_Count l (fun r0_Slots r0_Count => k (.agg [.arr (.ints 3 .i64 r0_Slots), .int .i64 r0_Count])) := by kernel_rfl

theorem spec_UndoAll_fn : PM.FnIs Try.prog 59 Try.f59 := .of Try.func59 (by kernel_rfl) (by kernel_rfl)
theorem spec_UndoAll_g : PM.GOk Try.prog cx 59 ⟨[], spec_UndoAll_w (spec_UndoAll PM.std)⟩ := by
  refine ⟨spec_UndoAll_fn.enter, fun _ ds k r h => ?_, fun hm => absurd rfl hm⟩
  change spec_UndoAll_w (spec_UndoAll PM.std) ds k = some r at h
  unfold spec_UndoAll_w at h
  split at h
  · exact PM.pfun_ok (E := spec_UndoAll_E PM.std (spec_l16Copy PM.std) (spec_UndoOne PM.std)) (L := fun n => spec_UndoAll_L PM.std (spec_l16Copy PM.std) (spec_UndoOne PM.std) n) (N := PM.std.fuel) cx_ok (.cons spec_l16Copy_g (.cons spec_UndoOne_g .nil)) mixed .nil spec_UndoAll_fn (by kernel_rfl) ⟨rfl, fun cur σ K => by
      dsimp only [spec_UndoAll_L]
      split <;> rfl, fun n cur σ K r h => by
      dsimp only [spec_UndoAll_L] at h
      split at h
      · exact (spec_UndoAll_l0_ok PM.std (spec_l16Copy PM.std) (spec_UndoOne PM.std) n _ _ _ _ _ _ K).symm.trans h
      · cases h⟩
      ((spec_UndoAll_ok PM.std (spec_l16Copy PM.std) (spec_UndoOne PM.std) _ _ _ k).trans h)
  · cases h

abbrev impl_UndoAll_T := (List Int) → (Int) → (List (List Int)) → ((List Int) → (Int) → PM.R) → PM.R
noncomputable def impl_UndoAll_w (c : impl_UndoAll_T) (ds : List PM.V) (k : PM.V → PM.R) : PM.R :=
  match ds with
  | [.agg [.arr (.ints 3 .i64 s_Slots), .int .i64 s_Count], .arr (.vecs 32 3 l)] => c s_Slots s_Count l (fun r0_Slots r0_Count => k (.agg [.arr (.ints 3 .i64 r0_Slots), .int .i64 r0_Count]))
  | _ => none
noncomputable def impl_UndoAll_l0 (A : PM.Prims) (c_91 : impl_copyShelf_T) (c_55 : impl_UndoOne_T) : Nat → (List (List Int)) → (Int) → (Int) → (Int) → (List Int) → (List Int) → ((Int) → (Int) → (List Int) → (List Int) → PM.R) → PM.R
  | 0, _, _, _, _, _, _, _ => none
  | n + 1, l3, i4, o05, o16, o27, o38, kx0_0 =>
    bif (A.le 0 i4) then
      bif (A.inb i4 (A.vlen l3)) then
        c_55 o27 o05 (A.vget l3 i4 0) (A.vget l3 i4 1) (A.vget l3 i4 2) (fun r9 r10 r11 =>
          impl_UndoAll_l0 A c_91 c_55 n l3 (A.sub .i64 i4 1) r10 o16 r9 o38 kx0_0)
      else
        none
    else
      kx0_0 o05 o16 o27 o38
noncomputable def impl_UndoAll_f (A : PM.Prims) (c_91 : impl_copyShelf_T) (c_55 : impl_UndoOne_T) (s_Slots : List Int) (s_Count : Int) (l : List (List Int)) (k : (List Int) → (Int) → PM.R) : PM.R :=
  c_91 s_Slots s_Count (fun r1 r2 =>
    impl_UndoAll_l0 A c_91 c_55 A.fuel l (A.sub .i64 (A.vlen l) 1) r2 0 r1 [] (fun o01216 o11317 o21418 o31519 =>
      k o21418 o01216))
noncomputable def impl_UndoAll (A : PM.Prims) : impl_UndoAll_T := impl_UndoAll_f A (impl_copyShelf A) (impl_UndoOne A)
noncomputable def impl_UndoAll_L (A : PM.Prims) (c_91 : impl_copyShelf_T) (c_55 : impl_UndoOne_T) (n : Nat) : PM.Lam := fun cur σ K =>
  match cur, σ, K with
  | 0, ⟨[(1, .arr (.vecs 32 3 l3)), (2, .pbox 0 0), (4, .pbox 1 0), (5, .int .i64 i4)], [(0, .box [.sref 2, .int .i64 o05]), (1, .box [.sref 3, .int .i64 o16]), (2, .arr true (.ints 3 .i64 o27)), (3, .arr true (.ints 3 .i64 o38))]⟩, K => impl_UndoAll_l0 A c_91 c_55 n l3 i4 o05 o16 o27 o38 (fun o012 o113 o214 o315 => K (.exit 0) ⟨[(2, .pbox 0 0), (4, .pbox 1 0)], [(0, .box [.sref 2, .int .i64 o012]), (1, .box [.sref 3, .int .i64 o113]), (2, .arr true (.ints 3 .i64 o214)), (3, .arr true (.ints 3 .i64 o315))]⟩)
  | _, _, _ => none
noncomputable def impl_UndoAll_E (A : PM.Prims) (c_91 : impl_copyShelf_T) (c_55 : impl_UndoOne_T) : PM.Env := ⟨[(91, ⟨[], impl_copyShelf_w c_91⟩), (55, ⟨[], impl_UndoOne_w c_55⟩)], [], [(0, [1, 2, 4, 5], [2, 4])], [(0, [1, 2, 4]), (1, [1, 2, 4]), (2, [1, 2, 4, 5]), (3, [1, 2, 4, 5, 12]), (4, [1, 2, 4, 5]), (5, [1, 2, 4, 5]), (6, [4])], impl_UndoAll_L A c_91 c_55 A.fuel⟩
theorem impl_UndoAll_l0_ok (A : PM.Prims) (c_91 : impl_copyShelf_T) (c_55 : impl_UndoOne_T) (n : Nat) (l3 : List (List Int)) (i4 : Int) (o05 : Int) (o16 : Int) (o27 : List Int) (o38 : List Int) (K : Go.Exit → PM.S → PM.R) : impl_UndoAll_L A c_91 c_55 (n + 1) 0 ⟨[(1, .arr (.vecs 32 3 l3)), (2, .pbox 0 0), (4, .pbox 1 0), (5, .int .i64 i4)], [(0, .box [.sref 2, .int .i64 o05]), (1, .box [.sref 3, .int .i64 o16]), (2, .arr true (.ints 3 .i64 o27)), (3, .arr true (.ints 3 .i64 o38))]⟩ K = PM.roundF A cx (PM.runD A cx (impl_UndoAll_E A c_91 c_55).inl (impl_UndoAll_E A c_91 c_55).Γ 3) (impl_UndoAll_E A c_91 c_55) (impl_UndoAll_L A c_91 c_55 n) 0 Go.Proofs.Try.f61 ⟨[(1, .arr (.vecs 32 3 l3)), (2, .pbox 0 0), (4, .pbox 1 0), (5, .int .i64 i4)], [(0, .box [.sref 2, .int .i64 o05]), (1, .box [.sref 3, .int .i64 o16]), (2, .arr true (.ints 3 .i64 o27)), (3, .arr true (.ints 3 .i64 o38))]⟩ K := by kernel_rfl
theorem impl_UndoAll_ok (A : PM.Prims) (c_91 : impl_copyShelf_T) (c_55 : impl_UndoOne_T) (s_Slots : List Int) (s_Count : Int) (l : List (List Int)) (k : PM.V → PM.R) : PM.pfun A cx [] (impl_UndoAll_E A c_91 c_55) Go.Proofs.Try.f61 [.agg [.arr (.ints 3 .i64 s_Slots), .int .i64 s_Count], .arr (.vecs 32 3 l)] k = impl_UndoAll_f A c_91 c_55 s_Slots s_Count l (fun r0_Slots r0_Count => k (.agg [.arr (.ints 3 .i64 r0_Slots), .int .i64 r0_Count])) := by kernel_rfl

theorem impl_UndoAll_fn : PM.FnIs Try.prog 61 Try.f61 := .of Try.func61 (by kernel_rfl) (by kernel_rfl)
theorem impl_UndoAll_g : PM.GOk Try.prog cx 61 ⟨[], impl_UndoAll_w (impl_UndoAll PM.std)⟩ := by
  refine ⟨impl_UndoAll_fn.enter, fun _ ds k r h => ?_, fun hm => absurd rfl hm⟩
  change impl_UndoAll_w (impl_UndoAll PM.std) ds k = some r at h
  unfold impl_UndoAll_w at h
  split at h
  · exact PM.pfun_ok (E := impl_UndoAll_E PM.std (impl_copyShelf PM.std) (impl_UndoOne PM.std)) (L := fun n => impl_UndoAll_L PM.std (impl_copyShelf PM.std) (impl_UndoOne PM.std) n) (N := PM.std.fuel) cx_ok (.cons impl_copyShelf_g (.cons impl_UndoOne_g .nil)) mixed .nil impl_UndoAll_fn (by kernel_rfl) ⟨rfl, fun cur σ K => by
      dsimp only [impl_UndoAll_L]
      split <;> rfl, fun n cur σ K r h => by
      dsimp only [impl_UndoAll_L] at h
      split at h
      · exact (impl_UndoAll_l0_ok PM.std (impl_copyShelf PM.std) (impl_UndoOne PM.std) n _ _ _ _ _ _ K).symm.trans h
      · cases h⟩
      ((impl_UndoAll_ok PM.std (impl_copyShelf PM.std) (impl_UndoOne PM.std) _ _ _ k).trans h)
  · cases h

abbrev laws_eqUndo_T := (Int) → (Int) → (Int) → (Int) → (Int) → (Int) → ((Bool) → PM.R) → PM.R
noncomputable def laws_eqUndo_w (c : laws_eqUndo_T) (ds : List PM.V) (k : PM.V → PM.R) : PM.R :=
  match ds with
  | [.agg [.int .i64 a_Kind, .int .i64 a_Key, .int .i64 a_Val], .agg [.int .i64 b_Kind, .int .i64 b_Key, .int .i64 b_Val]] => c a_Kind a_Key a_Val b_Kind b_Key b_Val (fun r0 => k (.bool r0))
  | _ => none
noncomputable def laws_eqUndo_f (A : PM.Prims) (a_Kind : Int) (a_Key : Int) (a_Val : Int) (b_Kind : Int) (b_Key : Int) (b_Val : Int) (k : (Bool) → PM.R) : PM.R :=
  bif (A.not (A.eq a_Kind b_Kind)) then
    k false
  else
    bif (A.not (A.eq a_Key b_Key)) then
      k false
    else
      bif (A.not (A.eq a_Val b_Val)) then
        k false
      else
        k true
noncomputable def laws_eqUndo (A : PM.Prims) : laws_eqUndo_T := laws_eqUndo_f A
noncomputable def laws_eqUndo_L (A : PM.Prims) (n : Nat) : PM.Lam := fun cur σ K =>
  match cur, σ, K with
  | _, _, _ => none
noncomputable def laws_eqUndo_E (A : PM.Prims) : PM.Env := ⟨[], [], [], [(0, [2, 3]), (1, [2, 3, 9]), (2, [4]), (3, [2, 3, 14]), (4, [4]), (5, [19]), (6, [4]), (7, [4])], laws_eqUndo_L A A.fuel⟩
theorem laws_eqUndo_ok (A : PM.Prims) (a_Kind : Int) (a_Key : Int) (a_Val : Int) (b_Kind : Int) (b_Key : Int) (b_Val : Int) (k : PM.V → PM.R) : PM.pfun A cx [] (laws_eqUndo_E A) Go.Proofs.Try.f66 [.agg [.int .i64 a_Kind, .int .i64 a_Key, .int .i64 a_Val], .agg [.int .i64 b_Kind, .int .i64 b_Key, .int .i64 b_Val]] k = laws_eqUndo_f A a_Kind a_Key a_Val b_Kind b_Key b_Val (fun r0 => k (.bool r0)) := by kernel_rfl

theorem laws_eqUndo_fn : PM.FnIs Try.prog 66 Try.f66 := .of Try.func66 (by kernel_rfl) (by kernel_rfl)
theorem laws_eqUndo_g : PM.GOk Try.prog cx 66 ⟨[], laws_eqUndo_w (laws_eqUndo PM.std)⟩ := by
  refine ⟨laws_eqUndo_fn.enter, fun _ ds k r h => ?_, fun hm => absurd rfl hm⟩
  change laws_eqUndo_w (laws_eqUndo PM.std) ds k = some r at h
  unfold laws_eqUndo_w at h
  split at h
  · exact PM.pfun_ok (E := laws_eqUndo_E PM.std) (L := fun n => laws_eqUndo_L PM.std n) (N := PM.std.fuel) cx_ok .nil mixed .nil laws_eqUndo_fn (by kernel_rfl) ⟨rfl, fun _ _ _ => rfl, fun n cur σ K r h => by cases h⟩
      ((laws_eqUndo_ok PM.std _ _ _ _ _ _ k).trans h)
  · cases h

abbrev laws_eqUndoS_T := (List (List Int)) → (List (List Int)) → ((Bool) → PM.R) → PM.R
noncomputable def laws_eqUndoS_w (c : laws_eqUndoS_T) (ds : List PM.V) (k : PM.V → PM.R) : PM.R :=
  match ds with
  | [.arr (.vecs 32 3 a), .arr (.vecs 32 3 b)] => c a b (fun r0 => k (.bool r0))
  | _ => none
noncomputable def laws_eqUndoS_l0 (A : PM.Prims) (c_66 : laws_eqUndo_T) : Nat → (List (List Int)) → (List (List Int)) → (Int) → ((Bool) → PM.R) → (Unit → PM.R) → PM.R
  | 0, _, _, _, _, _ => none
  | n + 1, a1, b2, i3, kret_0, kx0_0 =>
    bif (A.lt i3 (A.vlen a1)) then
      bif (A.inb i3 (A.vlen a1)) then
        bif (A.inb i3 (A.vlen b2)) then
          c_66 (A.vget a1 i3 0) (A.vget a1 i3 1) (A.vget a1 i3 2) (A.vget b2 i3 0) (A.vget b2 i3 1) (A.vget b2 i3 2) (fun r4 =>
            bif (A.not r4) then
              kret_0 false
            else
              laws_eqUndoS_l0 A c_66 n a1 b2 (A.add .i64 i3 1) kret_0 kx0_0)
        else
          none
      else
        none
    else
      kx0_0 ()
noncomputable def laws_eqUndoS_f (A : PM.Prims) (c_66 : laws_eqUndo_T) (a : List (List Int)) (b : List (List Int)) (k : (Bool) → PM.R) : PM.R :=
  bif (A.not (A.eq (A.vlen a) (A.vlen b))) then
    k false
  else
    laws_eqUndoS_l0 A c_66 A.fuel a b 0 (fun t456 =>
      k t456) (fun _ =>
      k true)
noncomputable def laws_eqUndoS (A : PM.Prims) : laws_eqUndoS_T := laws_eqUndoS_f A (laws_eqUndo A)
noncomputable def laws_eqUndoS_L (A : PM.Prims) (c_66 : laws_eqUndo_T) (n : Nat) : PM.Lam := fun cur σ K =>
  match cur, σ, K with
  | 0, ⟨[(0, .arr (.vecs 32 3 a1)), (1, .arr (.vecs 32 3 b2)), (5, .int .i64 i3)], []⟩, K => laws_eqUndoS_l0 A c_66 n a1 b2 i3 (fun t45 => K .ret ⟨[(4, .bool t45)], []⟩) (fun _ => K (.exit 0) ⟨[], []⟩)
  | _, _, _ => none
noncomputable def laws_eqUndoS_E (A : PM.Prims) (c_66 : laws_eqUndo_T) : PM.Env := ⟨[(66, ⟨[], laws_eqUndo_w c_66⟩)], [], [(0, [0, 1, 5], [4])], [(0, [0, 1]), (1, [0, 1, 10]), (2, [4]), (3, [0, 1, 5]), (4, [0, 1, 5, 14]), (5, [0, 1, 5]), (6, [0, 1, 5, 26]), (7, [4]), (8, [4])], laws_eqUndoS_L A c_66 A.fuel⟩
theorem laws_eqUndoS_l0_ok (A : PM.Prims) (c_66 : laws_eqUndo_T) (n : Nat) (a1 : List (List Int)) (b2 : List (List Int)) (i3 : Int) (K : Go.Exit → PM.S → PM.R) : laws_eqUndoS_L A c_66 (n + 1) 0 ⟨[(0, .arr (.vecs 32 3 a1)), (1, .arr (.vecs 32 3 b2)), (5, .int .i64 i3)], []⟩ K = PM.roundF A cx (PM.runD A cx (laws_eqUndoS_E A c_66).inl (laws_eqUndoS_E A c_66).Γ 3) (laws_eqUndoS_E A c_66) (laws_eqUndoS_L A c_66 n) 0 Go.Proofs.Try.f62 ⟨[(0, .arr (.vecs 32 3 a1)), (1, .arr (.vecs 32 3 b2)), (5, .int .i64 i3)], []⟩ K := by kernel_rfl
theorem laws_eqUndoS_ok (A : PM.Prims) (c_66 : laws_eqUndo_T) (a : List (List Int)) (b : List (List Int)) (k : PM.V → PM.R) : PM.pfun A cx [] (laws_eqUndoS_E A c_66) Go.Proofs.Try.f62 [.arr (.vecs 32 3 a), .arr (.vecs 32 3 b)] k = laws_eqUndoS_f A c_66 a b (fun r0 => k (.bool r0)) := by kernel_rfl

theorem laws_eqUndoS_fn : PM.FnIs Try.prog 62 Try.f62 := .of Try.func62 (by kernel_rfl) (by kernel_rfl)
theorem laws_eqUndoS_g : PM.GOk Try.prog cx 62 ⟨[], laws_eqUndoS_w (laws_eqUndoS PM.std)⟩ := by
  refine ⟨laws_eqUndoS_fn.enter, fun _ ds k r h => ?_, fun hm => absurd rfl hm⟩
  change laws_eqUndoS_w (laws_eqUndoS PM.std) ds k = some r at h
  unfold laws_eqUndoS_w at h
  split at h
  · exact PM.pfun_ok (E := laws_eqUndoS_E PM.std (laws_eqUndo PM.std)) (L := fun n => laws_eqUndoS_L PM.std (laws_eqUndo PM.std) n) (N := PM.std.fuel) cx_ok (.cons laws_eqUndo_g .nil) mixed .nil laws_eqUndoS_fn (by kernel_rfl) ⟨rfl, fun cur σ K => by
      dsimp only [laws_eqUndoS_L]
      split <;> rfl, fun n cur σ K r h => by
      dsimp only [laws_eqUndoS_L] at h
      split at h
      · exact (laws_eqUndoS_l0_ok PM.std (laws_eqUndo PM.std) n _ _ _ K).symm.trans h
      · cases h⟩
      ((laws_eqUndoS_ok PM.std (laws_eqUndo PM.std) _ _ k).trans h)
  · cases h

abbrev laws_markUndoS_T := (List (List Int)) → (Int) → ((Int) → (List (List Int)) → PM.R) → PM.R
noncomputable def laws_markUndoS_w (c : laws_markUndoS_T) (ds : List PM.V) (k : PM.V → PM.R) : PM.R :=
  match ds with
  | [.arr (.vecs 32 3 a), .int .i64 k_] => c a k_ (fun r0 o0 => k (.tup [.int .i64 r0, .arr (.vecs 32 3 o0)]))
  | _ => none
noncomputable def laws_markUndoS_l0 (A : PM.Prims) : Nat → (Int) → (Int) → (List (List Int)) → ((Int) → (List (List Int)) → PM.R) → PM.R
  | 0, _, _, _, _ => none
  | n + 1, k1, i2, o03, kx0_0 =>
    bif (A.lt i2 (A.vlen o03)) then
      bif (A.inb i2 (A.vlen o03)) then
        bif (A.inb i2 (A.vlen (A.vset o03 i2 0 k1))) then
          bif (A.inb i2 (A.vlen (A.vset (A.vset o03 i2 0 k1) i2 1 (A.add .i64 k1 1)))) then
            laws_markUndoS_l0 A n (A.add .i64 (A.add .i64 (A.add .i64 k1 1) 1) 1) (A.add .i64 i2 1) (A.vset (A.vset (A.vset o03 i2 0 k1) i2 1 (A.add .i64 k1 1)) i2 2 (A.add .i64 (A.add .i64 k1 1) 1)) kx0_0
          else
            none
        else
          none
      else
        none
    else
      kx0_0 k1 o03
noncomputable def laws_markUndoS_f (A : PM.Prims) (a : List (List Int)) (k_ : Int) (k : (Int) → (List (List Int)) → PM.R) : PM.R :=
  laws_markUndoS_l0 A A.fuel k_ 0 a (fun k46 o057 =>
    k k46 o057)
noncomputable def laws_markUndoS (A : PM.Prims) : laws_markUndoS_T := laws_markUndoS_f A
noncomputable def laws_markUndoS_L (A : PM.Prims) (n : Nat) : PM.Lam := fun cur σ K =>
  match cur, σ, K with
  | 0, ⟨[(0, .sref 0), (1, .int .i64 k1), (5, .int .i64 i2)], [(0, .arr false (.vecs 32 3 o03))]⟩, K => laws_markUndoS_l0 A n k1 i2 o03 (fun k4 o05 => K (.exit 0) ⟨[(0, .sref 0), (1, .int .i64 k4)], [(0, .arr false (.vecs 32 3 o05))]⟩)
  | _, _, _ => none
noncomputable def laws_markUndoS_E (A : PM.Prims) : PM.Env := ⟨[], [], [(0, [0, 1, 5], [0, 1, 4])], [(0, [0, 1]), (1, [0, 1, 5]), (2, [0, 1, 5, 9]), (3, [0, 1, 5]), (4, [0, 1, 5]), (5, [0, 1, 5]), (6, [0, 1, 5]), (7, [0, 1, 5]), (8, [0, 1, 5]), (9, [0, 1, 5]), (10, [0, 4])], laws_markUndoS_L A A.fuel⟩
theorem laws_markUndoS_l0_ok (A : PM.Prims) (n : Nat) (k1 : Int) (i2 : Int) (o03 : List (List Int)) (K : Go.Exit → PM.S → PM.R) : laws_markUndoS_L A (n + 1) 0 ⟨[(0, .sref 0), (1, .int .i64 k1), (5, .int .i64 i2)], [(0, .arr false (.vecs 32 3 o03))]⟩ K = PM.roundF A cx (PM.runD A cx (laws_markUndoS_E A).inl (laws_markUndoS_E A).Γ 3) (laws_markUndoS_E A) (laws_markUndoS_L A n) 0 Go.Proofs.Try.f63 ⟨[(0, .sref 0), (1, .int .i64 k1), (5, .int .i64 i2)], [(0, .arr false (.vecs 32 3 o03))]⟩ K := by kernel_rfl
theorem laws_markUndoS_ok (A : PM.Prims) (a : List (List Int)) (k_ : Int) (k : PM.V → PM.R) : PM.pfun A cx [true, false] (laws_markUndoS_E A) Go.Proofs.Try.f63 [.arr (.vecs 32 3 a), .int .i64 k_] k = laws_markUndoS_f A a k_ (fun r0 o0 => k (.tup [.int .i64 r0, .arr (.vecs 32 3 o0)])) := by kernel_rfl

theorem laws_markUndoS_fn : PM.FnIs Try.prog 63 Try.f63 := .of Try.func63 (by kernel_rfl) (by kernel_rfl)
theorem laws_markUndoS_g : PM.GOk Try.prog cx 63 ⟨[true, false], laws_markUndoS_w (laws_markUndoS PM.std)⟩ := by
  refine ⟨laws_markUndoS_fn.enter, fun hm => (by cases hm), fun _ ds k r h => ?_⟩
  change laws_markUndoS_w (laws_markUndoS PM.std) ds k = some r at h
  unfold laws_markUndoS_w at h
  split at h
  · exact PM.pfun_okM (List.cons_ne_nil _ _) (E := laws_markUndoS_E PM.std) (L := fun n => laws_markUndoS_L PM.std n) (N := PM.std.fuel) cx_ok .nil mixed .nil laws_markUndoS_fn (by kernel_rfl) ⟨rfl, fun cur σ K => by
      dsimp only [laws_markUndoS_L]
      split <;> rfl, fun n cur σ K r h => by
      dsimp only [laws_markUndoS_L] at h
      split at h
      · exact (laws_markUndoS_l0_ok PM.std n _ _ _ K).symm.trans h
      · cases h⟩
      ((laws_markUndoS_ok PM.std _ _ k).trans h)
  · cases h

abbrev laws_FnExactUndoAll_T := (List Int) → (Int) → (List (List Int)) → ((Bool) → PM.R) → PM.R
noncomputable def laws_FnExactUndoAll_w (c : laws_FnExactUndoAll_T) (ds : List PM.V) (k : PM.V → PM.R) : PM.R :=
  match ds with
  | [.agg [.arr (.ints 3 .i64 ___Slots), .int .i64 ___Count], .arr (.vecs 30 3 a)] => c ___Slots ___Count a (fun r0 => k (.bool r0))
  | _ => none
noncomputable def laws_FnExactUndoAll_f (A : PM.Prims) (c_38 : laws_szShelf_T) (c_40 : laws_toShelf_T) (c_42 : laws_eqShelf_T) (c_56 : laws_markShelf_T) (c_57 : laws_heldShelf_T) (c_58 : laws_szUndoS_T) (c_60 : laws_toUndoS_T) (c_59 : spec_UndoAll_T) (c_61 : impl_UndoAll_T) (c_62 : laws_eqUndoS_T) (c_63 : laws_markUndoS_T) (___Slots : List Int) (___Count : Int) (a : List (List Int)) (k : (Bool) → PM.R) : PM.R :=
  c_38 ___Slots ___Count 1048576 (fun r1 =>
    bif (A.lt r1 0) then
      k true
    else
      c_58 a r1 (fun r2 =>
        bif (A.lt r2 0) then
          k true
        else
          c_40 ___Slots ___Count (fun r3 r4 =>
            c_60 a (fun r5 =>
              c_59 r3 r4 r5 (fun r6 r7 =>
                c_40 ___Slots ___Count (fun r8 r9 =>
                  c_60 a (fun r10 =>
                    c_61 r8 r9 r10 (fun r11 r12 =>
                      c_42 r11 r12 r6 r7 (fun r13 =>
                        bif (A.not r13) then
                          k false
                        else
                          c_40 ___Slots ___Count (fun r14 r15 =>
                            c_42 r8 r9 r14 r15 (fun r16 =>
                              bif (A.not r16) then
                                k false
                              else
                                c_60 a (fun r17 =>
                                  c_62 r10 r17 (fun r18 =>
                                    bif (A.not r18) then
                                      k false
                                    else
                                      c_56 r8 r9 1 (fun r19 r20 =>
                                        c_63 r10 r19 (fun r21 r22 =>
                                          bif (A.lt r21 0) then
                                            k false
                                          else
                                            c_42 r11 r12 r6 r7 (fun r23 =>
                                              bif (A.not r23) then
                                                k false
                                              else
                                                c_56 r11 r12 1 (fun r24 r25 =>
                                                  c_57 r25 r12 1 (fun r26 =>
                                                    bif (A.lt r26 0) then
                                                      k false
                                                    else
                                                      bif (A.not (A.eq r26 r24)) then
                                                        k false
                                                      else
                                                        c_40 ___Slots ___Count (fun r27 r28 =>
                                                          c_60 a (fun r29 =>
                                                            c_61 r27 r28 r29 (fun r30 r31 =>
                                                              c_42 r30 r31 r6 r7 (fun r32 =>
                                                                bif (A.not r32) then
                                                                  k false
                                                                else
                                                                  c_57 r25 r12 1 (fun r33 =>
                                                                    bif (A.lt r33 0) then
                                                                      k false
                                                                    else
                                                                      bif (A.not (A.eq r33 r24)) then
                                                                        k false
                                                                      else
                                                                        k true)))))))))))))))))))))))
noncomputable def laws_FnExactUndoAll (A : PM.Prims) : laws_FnExactUndoAll_T := laws_FnExactUndoAll_f A (laws_szShelf A) (laws_toShelf A) (laws_eqShelf A) (laws_markShelf A) (laws_heldShelf A) (laws_szUndoS A) (laws_toUndoS A) (spec_UndoAll A) (impl_UndoAll A) (laws_eqUndoS A) (laws_markUndoS A)
noncomputable def laws_FnExactUndoAll_L (A : PM.Prims) (c_38 : laws_szShelf_T) (c_40 : laws_toShelf_T) (c_42 : laws_eqShelf_T) (c_56 : laws_markShelf_T) (c_57 : laws_heldShelf_T) (c_58 : laws_szUndoS_T) (c_60 : laws_toUndoS_T) (c_59 : spec_UndoAll_T) (c_61 : impl_UndoAll_T) (c_62 : laws_eqUndoS_T) (c_63 : laws_markUndoS_T) (n : Nat) : PM.Lam := fun cur σ K =>
  match cur, σ, K with
  | _, _, _ => none
noncomputable def laws_FnExactUndoAll_E (A : PM.Prims) (c_38 : laws_szShelf_T) (c_40 : laws_toShelf_T) (c_42 : laws_eqShelf_T) (c_56 : laws_markShelf_T) (c_57 : laws_heldShelf_T) (c_58 : laws_szUndoS_T) (c_60 : laws_toUndoS_T) (c_59 : spec_UndoAll_T) (c_61 : impl_UndoAll_T) (c_62 : laws_eqUndoS_T) (c_63 : laws_markUndoS_T) : PM.Env := ⟨[(38, ⟨[], laws_szShelf_w c_38⟩), (40, ⟨[], laws_toShelf_w c_40⟩), (42, ⟨[], laws_eqShelf_w c_42⟩), (56, ⟨[true, false], laws_markShelf_w c_56⟩), (57, ⟨[], laws_heldShelf_w c_57⟩), (58, ⟨[], laws_szUndoS_w c_58⟩), (60, ⟨[], laws_toUndoS_w c_60⟩), (59, ⟨[], spec_UndoAll_w c_59⟩), (61, ⟨[], impl_UndoAll_w c_61⟩), (62, ⟨[], laws_eqUndoS_w c_62⟩), (63, ⟨[true, false], laws_markUndoS_w c_63⟩)], [], [], [(0, [1, 2]), (1, [1, 2, 5]), (2, [1, 2, 5]), (3, [1, 2, 5, 18]), (4, [4]), (5, [1, 2, 5]), (6, [1, 2, 23]), (7, [4]), (8, [1, 2, 6]), (9, [1, 2, 6, 7]), (10, [1, 2, 6, 7, 8]), (11, [1, 2, 6, 7, 8, 9]), (12, [1, 2, 6, 7, 8, 9, 39]), (13, [4]), (14, [1, 2, 6, 7, 8, 9, 44]), (15, [4]), (16, [1, 2, 6, 7, 8, 9, 49]), (17, [4]), (18, [1, 2, 6, 7, 8, 9, 10]), (19, [1, 2, 6, 8, 9, 10]), (20, [1, 2, 6, 9, 10]), (21, [1, 2, 6, 9, 63]), (22, [4]), (23, [1, 2, 6, 9, 11]), (24, [1, 2, 6, 9, 11]), (25, [1, 2, 6, 9, 11, 12]), (26, [1, 2, 6, 9, 11, 12]), (27, [1, 2, 6, 9, 11, 12, 71]), (28, [4]), (29, [1, 2, 6, 9, 11, 74]), (30, [4]), (31, [6, 9, 11, 13]), (32, [9, 11, 83]), (33, [4]), (34, [9, 11, 12]), (35, [11, 12]), (36, [11, 12, 88]), (37, [4]), (38, [91]), (39, [4]), (40, [4])], laws_FnExactUndoAll_L A c_38 c_40 c_42 c_56 c_57 c_58 c_60 c_59 c_61 c_62 c_63 A.fuel⟩
theorem laws_FnExactUndoAll_ok (A : PM.Prims) (c_38 : laws_szShelf_T) (c_40 : laws_toShelf_T) (c_42 : laws_eqShelf_T) (c_56 : laws_markShelf_T) (c_57 : laws_heldShelf_T) (c_58 : laws_szUndoS_T) (c_60 : laws_toUndoS_T) (c_59 : spec_UndoAll_T) (c_61 : impl_UndoAll_T) (c_62 : laws_eqUndoS_T) (c_63 : laws_markUndoS_T) (___Slots : List Int) (___Count : Int) (a : List (List Int)) (k : PM.V → PM.R) : PM.pfun A cx [] (laws_FnExactUndoAll_E A c_38 c_40 c_42 c_56 c_57 c_58 c_60 c_59 c_61 c_62 c_63) Go.Proofs.Try.f16 [.agg [.arr (.ints 3 .i64 ___Slots), .int .i64 ___Count], .arr (.vecs 30 3 a)] k = laws_FnExactUndoAll_f A c_38 c_40 c_42 c_56 c_57 c_58 c_60 c_59 c_61 c_62 c_63 ___Slots ___Count a (fun r0 => k (.bool r0)) := by kernel_rfl

theorem laws_FnExactUndoAll_fn : PM.FnIs Try.prog 16 Try.f16 := .of Try.func16 (by kernel_rfl) (by kernel_rfl)
theorem laws_FnExactUndoAll_g : PM.GOk Try.prog cx 16 ⟨[], laws_FnExactUndoAll_w (laws_FnExactUndoAll PM.std)⟩ := by
  refine ⟨laws_FnExactUndoAll_fn.enter, fun _ ds k r h => ?_, fun hm => absurd rfl hm⟩
  change laws_FnExactUndoAll_w (laws_FnExactUndoAll PM.std) ds k = some r at h
  unfold laws_FnExactUndoAll_w at h
  split at h
  · exact PM.pfun_ok (E := laws_FnExactUndoAll_E PM.std (laws_szShelf PM.std) (laws_toShelf PM.std) (laws_eqShelf PM.std) (laws_markShelf PM.std) (laws_heldShelf PM.std) (laws_szUndoS PM.std) (laws_toUndoS PM.std) (spec_UndoAll PM.std) (impl_UndoAll PM.std) (laws_eqUndoS PM.std) (laws_markUndoS PM.std)) (L := fun n => laws_FnExactUndoAll_L PM.std (laws_szShelf PM.std) (laws_toShelf PM.std) (laws_eqShelf PM.std) (laws_markShelf PM.std) (laws_heldShelf PM.std) (laws_szUndoS PM.std) (laws_toUndoS PM.std) (spec_UndoAll PM.std) (impl_UndoAll PM.std) (laws_eqUndoS PM.std) (laws_markUndoS PM.std) n) (N := PM.std.fuel) cx_ok (.cons laws_szShelf_g (.cons laws_toShelf_g (.cons laws_eqShelf_g (.cons laws_markShelf_g (.cons laws_heldShelf_g (.cons laws_szUndoS_g (.cons laws_toUndoS_g (.cons spec_UndoAll_g (.cons impl_UndoAll_g (.cons laws_eqUndoS_g (.cons laws_markUndoS_g .nil))))))))))) mixed .nil laws_FnExactUndoAll_fn (by kernel_rfl) ⟨rfl, fun _ _ _ => rfl, fun n cur σ K r h => by cases h⟩
      ((laws_FnExactUndoAll_ok PM.std (laws_szShelf PM.std) (laws_toShelf PM.std) (laws_eqShelf PM.std) (laws_markShelf PM.std) (laws_heldShelf PM.std) (laws_szUndoS PM.std) (laws_toUndoS PM.std) (spec_UndoAll PM.std) (impl_UndoAll PM.std) (laws_eqUndoS PM.std) (laws_markUndoS PM.std) _ _ _ k).trans h)
  · cases h

abbrev spec_l4Regs_T := (List Int) → ((Bool) → PM.R) → PM.R
noncomputable def spec_l4Regs_w (c : spec_l4Regs_T) (ds : List PM.V) (k : PM.V → PM.R) : PM.R :=
  match ds with
  | [.arr (.ints 3 .i64 l)] => c l (fun r0 => k (.bool r0))
  | _ => none
noncomputable def spec_l4Regs_l0 (A : PM.Prims) (c_72 : spec_l3Val_T) : Nat → (List Int) → (Int) → ((Bool) → PM.R) → (Unit → PM.R) → PM.R
  | 0, _, _, _, _ => none
  | n + 1, l1, i2, kret_0, kx0_0 =>
    bif (A.lt i2 (A.ilen l1)) then
      bif (A.inb i2 (A.ilen l1)) then
        c_72 (A.iget l1 i2) (fun r3 =>
          bif (A.not r3) then
            kret_0 false
          else
            spec_l4Regs_l0 A c_72 n l1 (A.add .i64 i2 1) kret_0 kx0_0)
      else
        none
    else
      kx0_0 ()
noncomputable def spec_l4Regs_f (A : PM.Prims) (c_72 : spec_l3Val_T) (l : List Int) (k : (Bool) → PM.R) : PM.R :=
  bif (A.not (A.eq (A.ilen l) 4)) then
    k false
  else
    spec_l4Regs_l0 A c_72 A.fuel l 0 (fun t245 =>
      k t245) (fun _ =>
      k true)
noncomputable def spec_l4Regs (A : PM.Prims) : spec_l4Regs_T := spec_l4Regs_f A (spec_l3Val A)
noncomputable def spec_l4Regs_L (A : PM.Prims) (c_72 : spec_l3Val_T) (n : Nat) : PM.Lam := fun cur σ K =>
  match cur, σ, K with
  | 0, ⟨[(0, .arr (.ints 3 .i64 l1)), (3, .int .i64 i2)], []⟩, K => spec_l4Regs_l0 A c_72 n l1 i2 (fun t24 => K .ret ⟨[(2, .bool t24)], []⟩) (fun _ => K (.exit 0) ⟨[], []⟩)
  | _, _, _ => none
noncomputable def spec_l4Regs_E (A : PM.Prims) (c_72 : spec_l3Val_T) : PM.Env := ⟨[(72, ⟨[], spec_l3Val_w c_72⟩)], [], [(0, [0, 3], [2])], [(0, [0]), (1, [0, 6]), (2, [2]), (3, [0, 3]), (4, [0, 3, 10]), (5, [0, 3]), (6, [0, 3, 18]), (7, [2]), (8, [2])], spec_l4Regs_L A c_72 A.fuel⟩
theorem spec_l4Regs_l0_ok (A : PM.Prims) (c_72 : spec_l3Val_T) (n : Nat) (l1 : List Int) (i2 : Int) (K : Go.Exit → PM.S → PM.R) : spec_l4Regs_L A c_72 (n + 1) 0 ⟨[(0, .arr (.ints 3 .i64 l1)), (3, .int .i64 i2)], []⟩ K = PM.roundF A cx (PM.runD A cx (spec_l4Regs_E A c_72).inl (spec_l4Regs_E A c_72).Γ 3) (spec_l4Regs_E A c_72) (spec_l4Regs_L A c_72 n) 0 Go.Proofs.Try.f92 ⟨[(0, .arr (.ints 3 .i64 l1)), (3, .int .i64 i2)], []⟩ K := by kernel_rfl
theorem spec_l4Regs_ok (A : PM.Prims) (c_72 : spec_l3Val_T) (l : List Int) (k : PM.V → PM.R) : PM.pfun A cx [] (spec_l4Regs_E A c_72) Go.Proofs.Try.f92 [.arr (.ints 3 .i64 l)] k = spec_l4Regs_f A c_72 l (fun r0 => k (.bool r0)) := by kernel_rfl

theorem spec_l4Regs_fn : PM.FnIs Try.prog 92 Try.f92 := .of Try.func92 (by kernel_rfl) (by kernel_rfl)
theorem spec_l4Regs_g : PM.GOk Try.prog cx 92 ⟨[], spec_l4Regs_w (spec_l4Regs PM.std)⟩ := by
  refine ⟨spec_l4Regs_fn.enter, fun _ ds k r h => ?_, fun hm => absurd rfl hm⟩
  change spec_l4Regs_w (spec_l4Regs PM.std) ds k = some r at h
  unfold spec_l4Regs_w at h
  split at h
  · exact PM.pfun_ok (E := spec_l4Regs_E PM.std (spec_l3Val PM.std)) (L := fun n => spec_l4Regs_L PM.std (spec_l3Val PM.std) n) (N := PM.std.fuel) cx_ok (.cons spec_l3Val_g .nil) mixed .nil spec_l4Regs_fn (by kernel_rfl) ⟨rfl, fun cur σ K => by
      dsimp only [spec_l4Regs_L]
      split <;> rfl, fun n cur σ K r h => by
      dsimp only [spec_l4Regs_L] at h
      split at h
      · exact (spec_l4Regs_l0_ok PM.std (spec_l3Val PM.std) n _ _ K).symm.trans h
      · cases h⟩
      ((spec_l4Regs_ok PM.std (spec_l3Val PM.std) _ k).trans h)
  · cases h

abbrev spec_l16Back_T := (Int) → (Int) → ((Int) → (Int) → (Int) → PM.R) → PM.R
noncomputable def spec_l16Back_w (c : spec_l16Back_T) (ds : List PM.V) (k : PM.V → PM.R) : PM.R :=
  match ds with
  | [.int .i64 key, .int .i64 old] => c key old (fun r0_Kind r0_Key r0_Val => k (.agg [.int .i64 r0_Kind, .int .i64 r0_Key, .int .i64 r0_Val]))
  | _ => none
noncomputable def spec_l16Back_f (A : PM.Prims) (key : Int) (old : Int) (k : (Int) → (Int) → (Int) → PM.R) : PM.R :=
  bif (A.eq old 0) then
    k 2 key 0
  else
    k 1 key (A.sub .i64 old 1)
noncomputable def spec_l16Back (A : PM.Prims) : spec_l16Back_T := spec_l16Back_f A
noncomputable def spec_l16Back_L (A : PM.Prims) (n : Nat) : PM.Lam := fun cur σ K =>
  match cur, σ, K with
  | _, _, _ => none
noncomputable def spec_l16Back_E (A : PM.Prims) : PM.Env := ⟨[], [], [], [(0, [0, 1, 4]), (1, [0, 1, 4, 6]), (2, [4]), (3, [4])], spec_l16Back_L A A.fuel⟩
theorem spec_l16Back_ok (A : PM.Prims) (key : Int) (old : Int) (k : PM.V → PM.R) : PM.pfun A cx [] (spec_l16Back_E A) Go.Proofs.Try.f93 [.int .i64 key, .int .i64 old] k = spec_l16Back_f A key old (fun r0_Kind r0_Key r0_Val => k (.agg [.int .i64 r0_Kind, .int .i64 r0_Key, .int .i64 r0_Val])) := by kernel_rfl

theorem spec_l16Back_fn : PM.FnIs Try.prog 93 Try.f93 := .of Try.func93 (by kernel_rfl) (by kernel_rfl)
theorem spec_l16Back_g : PM.GOk Try.prog cx 93 ⟨[], spec_l16Back_w (spec_l16Back PM.std)⟩ := by
  refine ⟨spec_l16Back_fn.enter, fun _ ds k r h => ?_, fun hm => absurd rfl hm⟩
  change spec_l16Back_w (spec_l16Back PM.std) ds k = some r at h
  unfold spec_l16Back_w at h
  split at h
  · exact PM.pfun_ok (E := spec_l16Back_E PM.std) (L := fun n => spec_l16Back_L PM.std n) (N := PM.std.fuel) cx_ok .nil mixed .nil spec_l16Back_fn (by kernel_rfl) ⟨rfl, fun _ _ _ => rfl, fun n cur σ K r h => by cases h⟩
      ((spec_l16Back_ok PM.std _ _ k).trans h)
  · cases h

abbrev spec_BoostDo_T := (List Int) → (Int) → (Int) → (Int) → (Int) → (Int) → (List Int) → ((List Int) → (Int) → (List Int) → (Int) → (Int) → (Int) → (Bool) → PM.R) → PM.R
noncomputable def spec_BoostDo_w (c : spec_BoostDo_T) (ds : List PM.V) (k : PM.V → PM.R) : PM.R :=
  match ds with
  | [.agg [.arr (.ints 3 .i64 ___Slots), .int .i64 ___Count], .agg [.int .i64 a_Kind, .int .i64 a_A, .int .i64 a_B, .int .i64 a_C], .arr (.ints 3 .i64 r)] => c ___Slots ___Count a_Kind a_A a_B a_C r (fun r0_Slots r0_Count r1 r2_Kind r2_Key r2_Val r3 => k (.tup [.agg [.arr (.ints 3 .i64 r0_Slots), .int .i64 r0_Count], .arr (.ints 3 .i64 r1), .agg [.int .i64 r2_Kind, .int .i64 r2_Key, .int .i64 r2_Val], .bool r3]))
  | _ => none
noncomputable def spec_BoostDo_f (A : PM.Prims) (c_33 : spec_SlotGet_T) (c_69 : spec_Touches_T) (c_39 : spec_ShelfOk_T) (c_83 : spec_l15Ints_T) (c_43 : spec_SlotDrop_T) (c_47 : spec_SlotPut_T) (c_90 : spec_l16Copy_T) (c_92 : spec_l4Regs_T) (c_93 : spec_l16Back_T) (___Slots : List Int) (___Count : Int) (a_Kind : Int) (a_A : Int) (a_B : Int) (a_C : Int) (r : List Int) (k : (List Int) → (Int) → (List Int) → (Int) → (Int) → (Int) → (Bool) → PM.R) : PM.R :=
  c_90 ___Slots ___Count (fun r1 r2 =>
    c_83 r (fun r3 =>
      c_39 ___Slots ___Count (fun r4 =>
        bif (A.not r4) then
          k r1 r2 r3 0 0 0 false
        else
          c_92 r (fun r5 =>
            bif (A.not r5) then
              k r1 r2 r3 0 0 0 false
            else
              c_69 a_Kind a_A a_B a_C (fun r6 =>
                bif (A.not (A.eq r6 2)) then
                  k r1 r2 r3 0 0 0 false
                else
                  bif (A.eq a_Kind 12) then
                    bif (A.inb a_B (A.ilen r)) then
                      c_47 ___Slots a_A (A.iget r a_B) (fun r7 r8 r9 =>
                        bif (A.nz 65536) then
                          bif (A.inb a_C (A.ilen r3)) then
                            c_93 a_A r8 (fun r10 r11 r12 =>
                              k r7 r2 (A.iset r3 a_C (A.rem .i64 r8 65536)) r10 r11 r12 true)
                          else
                            none
                        else
                          none)
                    else
                      none
                  else
                    bif (A.eq a_Kind 14) then
                      c_43 ___Slots a_A (fun r13 r14 r15 =>
                        bif (A.nz 65536) then
                          bif (A.inb a_B (A.ilen r3)) then
                            c_93 a_A r14 (fun r16 r17 r18 =>
                              k r13 r2 (A.iset r3 a_B (A.rem .i64 r14 65536)) r16 r17 r18 true)
                          else
                            none
                        else
                          none)
                    else
                      bif (A.eq a_Kind 13) then
                        c_33 ___Slots a_B (fun r19 r20 =>
                          bif (A.inb a_A (A.ilen r3)) then
                            bif r20 then
                              bif (A.nz 65536) then
                                bif (A.inb a_A (A.ilen (A.iset r3 a_A 0))) then
                                  k r1 r2 (A.iset (A.iset r3 a_A 0) a_A (A.rem .i64 (A.add .i64 r19 1) 65536)) 0 0 0 true
                                else
                                  none
                              else
                                none
                            else
                              k r1 r2 (A.iset r3 a_A 0) 0 0 0 true
                          else
                            none)
                      else
                        bif (A.eq a_Kind 15) then
                          bif (A.inb a_A (A.ilen r)) then
                            bif (A.nz 65536) then
                              bif (A.inb a_A (A.ilen r)) then
                                k r1 (A.rem .i64 (A.add .i64 ___Count (A.iget r a_A)) 65536) r3 3 0 (A.iget r a_A) true
                              else
                                none
                            else
                              none
                          else
                            none
                        else
                          bif (A.inb a_A (A.ilen r3)) then
                            k r1 r2 (A.iset r3 a_A ___Count) 0 0 0 true
                          else
                            none)))))
noncomputable def spec_BoostDo (A : PM.Prims) : spec_BoostDo_T := spec_BoostDo_f A (spec_SlotGet A) (spec_Touches A) (spec_ShelfOk A) (spec_l15Ints A) (spec_SlotDrop A) (spec_SlotPut A) (spec_l16Copy A) (spec_l4Regs A) (spec_l16Back A)
noncomputable def spec_BoostDo_L (A : PM.Prims) (c_33 : spec_SlotGet_T) (c_69 : spec_Touches_T) (c_39 : spec_ShelfOk_T) (c_83 : spec_l15Ints_T) (c_43 : spec_SlotDrop_T) (c_47 : spec_SlotPut_T) (c_90 : spec_l16Copy_T) (c_92 : spec_l4Regs_T) (c_93 : spec_l16Back_T) (n : Nat) : PM.Lam := fun cur σ K =>
  match cur, σ, K with
  | _, _, _ => none
noncomputable def spec_BoostDo_E (A : PM.Prims) (c_33 : spec_SlotGet_T) (c_69 : spec_Touches_T) (c_39 : spec_ShelfOk_T) (c_83 : spec_l15Ints_T) (c_43 : spec_SlotDrop_T) (c_47 : spec_SlotPut_T) (c_90 : spec_l16Copy_T) (c_92 : spec_l4Regs_T) (c_93 : spec_l16Back_T) : PM.Env := ⟨[(33, ⟨[], spec_SlotGet_w c_33⟩), (69, ⟨[], spec_Touches_w c_69⟩), (39, ⟨[], spec_ShelfOk_w c_39⟩), (83, ⟨[], spec_l15Ints_w c_83⟩), (43, ⟨[], spec_SlotDrop_w c_43⟩), (47, ⟨[], spec_SlotPut_w c_47⟩), (90, ⟨[], spec_l16Copy_w c_90⟩), (92, ⟨[], spec_l4Regs_w c_92⟩), (93, ⟨[], spec_l16Back_w c_93⟩)], [], [], [(0, [2, 3, 4, 6, 8]), (1, [2, 3, 4, 6, 8, 10]), (2, [2, 3, 4, 6, 8, 10, 11]), (3, [2, 3, 4, 6, 8, 10, 11, 12]), (4, [2, 3, 4, 6, 8, 10, 11, 12, 38]), (5, [6, 7, 8, 9]), (6, [2, 3, 4, 6, 8, 10, 11, 12, 43]), (7, [6, 8, 10, 11, 12]), (8, [2, 3, 4, 6, 8, 10, 11, 12, 43, 50]), (9, [4, 6, 8, 10, 11, 12, 13, 14]), (10, [4, 6, 8, 10, 11, 12, 14]), (11, [4, 6, 8, 10, 11, 12, 14]), (12, [6, 8, 10, 11, 12]), (13, [2, 3, 4, 6, 8, 10, 11, 12, 43, 78]), (14, [4, 6, 8, 10, 11, 12, 16, 17]), (15, [4, 6, 8, 10, 11, 12, 17]), (16, [4, 6, 8, 10, 11, 12, 17]), (17, [6, 8, 10, 11, 12]), (18, [2, 3, 4, 6, 8, 10, 11, 12, 43, 101]), (19, [4, 6, 8, 10, 11, 12, 19, 20]), (20, [4, 6, 8, 10, 11, 12, 19, 20]), (21, [4, 6, 8, 10, 11, 12, 19, 115]), (22, [6, 8, 10, 11, 12]), (23, [2, 3, 4, 6, 8, 10, 11, 12, 123]), (24, [2, 4, 6, 8, 10, 11, 12]), (25, [6, 8, 10, 11, 12]), (26, [6, 7, 8, 9])], spec_BoostDo_L A c_33 c_69 c_39 c_83 c_43 c_47 c_90 c_92 c_93 A.fuel⟩
theorem spec_BoostDo_ok (A : PM.Prims) (c_33 : spec_SlotGet_T) (c_69 : spec_Touches_T) (c_39 : spec_ShelfOk_T) (c_83 : spec_l15Ints_T) (c_43 : spec_SlotDrop_T) (c_47 : spec_SlotPut_T) (c_90 : spec_l16Copy_T) (c_92 : spec_l4Regs_T) (c_93 : spec_l16Back_T) (___Slots : List Int) (___Count : Int) (a_Kind : Int) (a_A : Int) (a_B : Int) (a_C : Int) (r : List Int) (k : PM.V → PM.R) : PM.pfun A cx [] (spec_BoostDo_E A c_33 c_69 c_39 c_83 c_43 c_47 c_90 c_92 c_93) Go.Proofs.Try.f64 [.agg [.arr (.ints 3 .i64 ___Slots), .int .i64 ___Count], .agg [.int .i64 a_Kind, .int .i64 a_A, .int .i64 a_B, .int .i64 a_C], .arr (.ints 3 .i64 r)] k = spec_BoostDo_f A c_33 c_69 c_39 c_83 c_43 c_47 c_90 c_92 c_93 ___Slots ___Count a_Kind a_A a_B a_C r (fun r0_Slots r0_Count r1 r2_Kind r2_Key r2_Val r3 => k (.tup [.agg [.arr (.ints 3 .i64 r0_Slots), .int .i64 r0_Count], .arr (.ints 3 .i64 r1), .agg [.int .i64 r2_Kind, .int .i64 r2_Key, .int .i64 r2_Val], .bool r3])) := by kernel_rfl

theorem spec_BoostDo_fn : PM.FnIs Try.prog 64 Try.f64 := .of Try.func64 (by kernel_rfl) (by kernel_rfl)
theorem spec_BoostDo_g : PM.GOk Try.prog cx 64 ⟨[], spec_BoostDo_w (spec_BoostDo PM.std)⟩ := by
  refine ⟨spec_BoostDo_fn.enter, fun _ ds k r h => ?_, fun hm => absurd rfl hm⟩
  change spec_BoostDo_w (spec_BoostDo PM.std) ds k = some r at h
  unfold spec_BoostDo_w at h
  split at h
  · exact PM.pfun_ok (E := spec_BoostDo_E PM.std (spec_SlotGet PM.std) (spec_Touches PM.std) (spec_ShelfOk PM.std) (spec_l15Ints PM.std) (spec_SlotDrop PM.std) (spec_SlotPut PM.std) (spec_l16Copy PM.std) (spec_l4Regs PM.std) (spec_l16Back PM.std)) (L := fun n => spec_BoostDo_L PM.std (spec_SlotGet PM.std) (spec_Touches PM.std) (spec_ShelfOk PM.std) (spec_l15Ints PM.std) (spec_SlotDrop PM.std) (spec_SlotPut PM.std) (spec_l16Copy PM.std) (spec_l4Regs PM.std) (spec_l16Back PM.std) n) (N := PM.std.fuel) cx_ok (.cons spec_SlotGet_g (.cons spec_Touches_g (.cons spec_ShelfOk_g (.cons spec_l15Ints_g (.cons spec_SlotDrop_g (.cons spec_SlotPut_g (.cons spec_l16Copy_g (.cons spec_l4Regs_g (.cons spec_l16Back_g .nil))))))))) mixed .nil spec_BoostDo_fn (by kernel_rfl) ⟨rfl, fun _ _ _ => rfl, fun n cur σ K r h => by cases h⟩
      ((spec_BoostDo_ok PM.std (spec_SlotGet PM.std) (spec_Touches PM.std) (spec_ShelfOk PM.std) (spec_l15Ints PM.std) (spec_SlotDrop PM.std) (spec_SlotPut PM.std) (spec_l16Copy PM.std) (spec_l4Regs PM.std) (spec_l16Back PM.std) _ _ _ _ _ _ _ k).trans h)
  · cases h

abbrev impl_areValues_T := (List Int) → (Int) → ((Bool) → PM.R) → PM.R
noncomputable def impl_areValues_w (c : impl_areValues_T) (ds : List PM.V) (k : PM.V → PM.R) : PM.R :=
  match ds with
  | [.arr (.ints 3 .i64 l), .int .i64 n_] => c l n_ (fun r0 => k (.bool r0))
  | _ => none
noncomputable def impl_areValues_l0 (A : PM.Prims) (c_73 : impl_isValue_T) : Nat → (List Int) → (Int) → (List Int) → (Int) → (Int) → ((Bool) → PM.R) → ((List Int) → (Int) → PM.R) → PM.R
  | 0, _, _, _, _, _, _, _ => none
  | n + 1, l1, n2, t73, t84, t95, kret_0, kx0_0 =>
    bif (A.lt t95 t84) then
      bif (A.inb t95 (A.ilen t73)) then
        c_73 (A.iget t73 t95) (fun r6 =>
          bif (A.not r6) then
            kret_0 false
          else
            impl_areValues_l0 A c_73 n l1 n2 t73 t84 (A.add .i64 t95 1) kret_0 kx0_0)
      else
        none
    else
      kx0_0 l1 n2
noncomputable def impl_areValues_f (A : PM.Prims) (c_73 : impl_isValue_T) (l : List Int) (n_ : Int) (k : (Bool) → PM.R) : PM.R :=
  impl_areValues_l0 A c_73 A.fuel l n_ l (A.ilen l) 0 (fun t4710 =>
    k t4710) (fun l811 n912 =>
    k (A.eq (A.ilen l811) n912))
noncomputable def impl_areValues (A : PM.Prims) : impl_areValues_T := impl_areValues_f A (impl_isValue A)
noncomputable def impl_areValues_L (A : PM.Prims) (c_73 : impl_isValue_T) (n : Nat) : PM.Lam := fun cur σ K =>
  match cur, σ, K with
  | 0, ⟨[(0, .arr (.ints 3 .i64 l1)), (1, .int .i64 n2), (7, .arr (.ints 3 .i64 t73)), (8, .int .i64 t84), (9, .int .i64 t95)], []⟩, K => impl_areValues_l0 A c_73 n l1 n2 t73 t84 t95 (fun t47 => K .ret ⟨[(4, .bool t47)], []⟩) (fun l8 n9 => K (.exit 0) ⟨[(0, .arr (.ints 3 .i64 l8)), (1, .int .i64 n9)], []⟩)
  | _, _, _ => none
noncomputable def impl_areValues_E (A : PM.Prims) (c_73 : impl_isValue_T) : PM.Env := ⟨[(73, ⟨[], impl_isValue_w c_73⟩)], [], [(0, [0, 1, 7, 8, 9], [0, 1, 4])], [(0, [0, 1]), (1, [0, 1, 7, 8, 9]), (2, [0, 1, 7, 8, 9, 10]), (3, [0, 1, 6, 7, 8, 9]), (4, [0, 1, 7, 8, 9, 15]), (5, [4]), (6, [0, 1, 7, 8, 9]), (7, [4])], impl_areValues_L A c_73 A.fuel⟩
theorem impl_areValues_l0_ok (A : PM.Prims) (c_73 : impl_isValue_T) (n : Nat) (l1 : List Int) (n2 : Int) (t73 : List Int) (t84 : Int) (t95 : Int) (K : Go.Exit → PM.S → PM.R) : impl_areValues_L A c_73 (n + 1) 0 ⟨[(0, .arr (.ints 3 .i64 l1)), (1, .int .i64 n2), (7, .arr (.ints 3 .i64 t73)), (8, .int .i64 t84), (9, .int .i64 t95)], []⟩ K = PM.roundF A cx (PM.runD A cx (impl_areValues_E A c_73).inl (impl_areValues_E A c_73).Γ 3) (impl_areValues_E A c_73) (impl_areValues_L A c_73 n) 0 Go.Proofs.Try.f94 ⟨[(0, .arr (.ints 3 .i64 l1)), (1, .int .i64 n2), (7, .arr (.ints 3 .i64 t73)), (8, .int .i64 t84), (9, .int .i64 t95)], []⟩ K := by kernel_rfl
theorem impl_areValues_ok (A : PM.Prims) (c_73 : impl_isValue_T) (l : List Int) (n_ : Int) (k : PM.V → PM.R) : PM.pfun A cx [] (impl_areValues_E A c_73) Go.Proofs.Try.f94 [.arr (.ints 3 .i64 l), .int .i64 n_] k = impl_areValues_f A c_73 l n_ (fun r0 => k (.bool r0)) := by kernel_rfl

theorem impl_areValues_fn : PM.FnIs Try.prog 94 Try.f94 := .of Try.func94 (by kernel_rfl) (by kernel_rfl)
theorem impl_areValues_g : PM.GOk Try.prog cx 94 ⟨[], impl_areValues_w (impl_areValues PM.std)⟩ := by
  refine ⟨impl_areValues_fn.enter, fun _ ds k r h => ?_, fun hm => absurd rfl hm⟩
  change impl_areValues_w (impl_areValues PM.std) ds k = some r at h
  unfold impl_areValues_w at h
  split at h
  · exact PM.pfun_ok (E := impl_areValues_E PM.std (impl_isValue PM.std)) (L := fun n => impl_areValues_L PM.std (impl_isValue PM.std) n) (N := PM.std.fuel) cx_ok (.cons impl_isValue_g .nil) mixed .nil impl_areValues_fn (by kernel_rfl) ⟨rfl, fun cur σ K => by
      dsimp only [impl_areValues_L]
      split <;> rfl, fun n cur σ K r h => by
      dsimp only [impl_areValues_L] at h
      split at h
      · exact (impl_areValues_l0_ok PM.std (impl_isValue PM.std) n _ _ _ _ _ K).symm.trans h
      · cases h⟩
      ((impl_areValues_ok PM.std (impl_isValue PM.std) _ _ k).trans h)
  · cases h

abbrev impl_Touches_T := (Int) → (Int) → (Int) → (Int) → ((Int) → PM.R) → PM.R
noncomputable def impl_Touches_w (c : impl_Touches_T) (ds : List PM.V) (k : PM.V → PM.R) : PM.R :=
  match ds with
  | [.agg [.int .i64 o_Kind, .int .i64 o_A, .int .i64 o_B, .int .i64 o_C]] => c o_Kind o_A o_B o_C (fun r0 => k (.int .i64 r0))
  | _ => none
noncomputable def impl_Touches_f (A : PM.Prims) (c_81 : impl_OpOk_T) (o_Kind : Int) (o_A : Int) (o_B : Int) (o_C : Int) (k : (Int) → PM.R) : PM.R :=
  c_81 o_Kind o_A o_B o_C (fun r1 =>
    bif (A.not r1) then
      k 0
    else
      bif (A.eq o_Kind 5) then
        k 1
      else
        bif (A.eq o_Kind 6) then
          k 1
        else
          bif (A.eq o_Kind 12) then
            k 2
          else
            bif (A.eq o_Kind 13) then
              k 2
            else
              bif (A.eq o_Kind 14) then
                k 2
              else
                bif (A.eq o_Kind 15) then
                  k 2
                else
                  bif (A.eq o_Kind 16) then
                    k 2
                  else
                    k 0)
noncomputable def impl_Touches (A : PM.Prims) : impl_Touches_T := impl_Touches_f A (impl_OpOk A)
noncomputable def impl_Touches_L (A : PM.Prims) (c_81 : impl_OpOk_T) (n : Nat) : PM.Lam := fun cur σ K =>
  match cur, σ, K with
  | _, _, _ => none
noncomputable def impl_Touches_E (A : PM.Prims) (c_81 : impl_OpOk_T) : PM.Env := ⟨[(81, ⟨[], impl_OpOk_w c_81⟩)], [], [], [(0, [1]), (1, [1, 5]), (2, [2]), (3, [7]), (4, [7, 8]), (5, [7, 8]), (6, [2]), (7, [7, 11]), (8, [7, 11]), (9, [7, 11]), (10, [7, 11]), (11, [11]), (12, [2]), (13, [2])], impl_Touches_L A c_81 A.fuel⟩
theorem impl_Touches_ok (A : PM.Prims) (c_81 : impl_OpOk_T) (o_Kind : Int) (o_A : Int) (o_B : Int) (o_C : Int) (k : PM.V → PM.R) : PM.pfun A cx [] (impl_Touches_E A c_81) Go.Proofs.Try.f95 [.agg [.int .i64 o_Kind, .int .i64 o_A, .int .i64 o_B, .int .i64 o_C]] k = impl_Touches_f A c_81 o_Kind o_A o_B o_C (fun r0 => k (.int .i64 r0)) := by kernel_rfl

theorem impl_Touches_fn : PM.FnIs Try.prog 95 Try.f95 := .of Try.func95 (by kernel_rfl) (by kernel_rfl)
theorem impl_Touches_g : PM.GOk Try.prog cx 95 ⟨[], impl_Touches_w (impl_Touches PM.std)⟩ := by
  refine ⟨impl_Touches_fn.enter, fun _ ds k r h => ?_, fun hm => absurd rfl hm⟩
  change impl_Touches_w (impl_Touches PM.std) ds k = some r at h
  unfold impl_Touches_w at h
  split at h
  · exact PM.pfun_ok (E := impl_Touches_E PM.std (impl_OpOk PM.std)) (L := fun n => impl_Touches_L PM.std (impl_OpOk PM.std) n) (N := PM.std.fuel) cx_ok (.cons impl_OpOk_g .nil) mixed .nil impl_Touches_fn (by kernel_rfl) ⟨rfl, fun _ _ _ => rfl, fun n cur σ K r h => by cases h⟩
      ((impl_Touches_ok PM.std (impl_OpOk PM.std) _ _ _ _ k).trans h)
  · cases h

abbrev impl_backTo_T := (Int) → (Int) → ((Int) → (Int) → (Int) → PM.R) → PM.R
noncomputable def impl_backTo_w (c : impl_backTo_T) (ds : List PM.V) (k : PM.V → PM.R) : PM.R :=
  match ds with
  | [.int .i64 key, .int .i64 entry] => c key entry (fun r0_Kind r0_Key r0_Val => k (.agg [.int .i64 r0_Kind, .int .i64 r0_Key, .int .i64 r0_Val]))
  | _ => none
noncomputable def impl_backTo_f (A : PM.Prims) (key : Int) (entry : Int) (k : (Int) → (Int) → (Int) → PM.R) : PM.R :=
  bif (A.eq entry 0) then
    k 2 key 0
  else
    k 1 key (A.sub .i64 entry 1)
noncomputable def impl_backTo (A : PM.Prims) : impl_backTo_T := impl_backTo_f A
noncomputable def impl_backTo_L (A : PM.Prims) (n : Nat) : PM.Lam := fun cur σ K =>
  match cur, σ, K with
  | _, _, _ => none
noncomputable def impl_backTo_E (A : PM.Prims) : PM.Env := ⟨[], [], [], [(0, [0, 1, 4]), (1, [0, 1, 4, 6]), (2, [4]), (3, [4])], impl_backTo_L A A.fuel⟩
theorem impl_backTo_ok (A : PM.Prims) (key : Int) (entry : Int) (k : PM.V → PM.R) : PM.pfun A cx [] (impl_backTo_E A) Go.Proofs.Try.f96 [.int .i64 key, .int .i64 entry] k = impl_backTo_f A key entry (fun r0_Kind r0_Key r0_Val => k (.agg [.int .i64 r0_Kind, .int .i64 r0_Key, .int .i64 r0_Val])) := by kernel_rfl

theorem impl_backTo_fn : PM.FnIs Try.prog 96 Try.f96 := .of Try.func96 (by kernel_rfl) (by kernel_rfl)
theorem impl_backTo_g : PM.GOk Try.prog cx 96 ⟨[], impl_backTo_w (impl_backTo PM.std)⟩ := by
  refine ⟨impl_backTo_fn.enter, fun _ ds k r h => ?_, fun hm => absurd rfl hm⟩
  change impl_backTo_w (impl_backTo PM.std) ds k = some r at h
  unfold impl_backTo_w at h
  split at h
  · exact PM.pfun_ok (E := impl_backTo_E PM.std) (L := fun n => impl_backTo_L PM.std n) (N := PM.std.fuel) cx_ok .nil mixed .nil impl_backTo_fn (by kernel_rfl) ⟨rfl, fun _ _ _ => rfl, fun n cur σ K r h => by cases h⟩
      ((impl_backTo_ok PM.std _ _ k).trans h)
  · cases h

abbrev impl_BoostDo_T := (List Int) → (Int) → (Int) → (Int) → (Int) → (Int) → (List Int) → ((List Int) → (Int) → (List Int) → (Int) → (Int) → (Int) → (Bool) → PM.R) → PM.R
noncomputable def impl_BoostDo_w (c : impl_BoostDo_T) (ds : List PM.V) (k : PM.V → PM.R) : PM.R :=
  match ds with
  | [.agg [.arr (.ints 3 .i64 ___Slots), .int .i64 ___Count], .agg [.int .i64 a_Kind, .int .i64 a_A, .int .i64 a_B, .int .i64 a_C], .arr (.ints 3 .i64 r)] => c ___Slots ___Count a_Kind a_A a_B a_C r (fun r0_Slots r0_Count r1 r2_Kind r2_Key r2_Val r3 => k (.tup [.agg [.arr (.ints 3 .i64 r0_Slots), .int .i64 r0_Count], .arr (.ints 3 .i64 r1), .agg [.int .i64 r2_Kind, .int .i64 r2_Key, .int .i64 r2_Val], .bool r3]))
  | _ => none
noncomputable def impl_BoostDo_f (A : PM.Prims) (c_34 : impl_SlotGet_T) (c_41 : impl_ShelfOk_T) (c_84 : impl_copyInts_T) (c_44 : impl_SlotDrop_T) (c_48 : impl_SlotPut_T) (c_91 : impl_copyShelf_T) (c_94 : impl_areValues_T) (c_95 : impl_Touches_T) (c_96 : impl_backTo_T) (___Slots : List Int) (___Count : Int) (a_Kind : Int) (a_A : Int) (a_B : Int) (a_C : Int) (r : List Int) (k : (List Int) → (Int) → (List Int) → (Int) → (Int) → (Int) → (Bool) → PM.R) : PM.R :=
  c_91 ___Slots ___Count (fun r1 r2 =>
    c_84 r (fun r3 =>
      c_41 r1 r2 (fun r4 =>
        bif (A.not r4) then
          k r1 r2 r3 0 0 0 false
        else
          c_94 r3 4 (fun r5 =>
            bif (A.not r5) then
              k r1 r2 r3 0 0 0 false
            else
              c_95 a_Kind a_A a_B a_C (fun r6 =>
                bif (A.not (A.eq r6 2)) then
                  k r1 r2 r3 0 0 0 false
                else
                  bif (A.eq a_Kind 12) then
                    bif (A.inb a_B (A.ilen r3)) then
                      c_48 r1 a_A (A.iget r3 a_B) (fun r7 r8 r9 =>
                        bif (A.nz 65536) then
                          bif (A.inb a_C (A.ilen r3)) then
                            c_96 a_A r8 (fun r10 r11 r12 =>
                              k r7 r2 (A.iset r3 a_C (A.rem .i64 r8 65536)) r10 r11 r12 true)
                          else
                            none
                        else
                          none)
                    else
                      none
                  else
                    bif (A.eq a_Kind 13) then
                      c_34 r1 a_B (fun r13 r14 =>
                        bif (A.inb a_A (A.ilen r3)) then
                          bif r14 then
                            bif (A.nz 65536) then
                              bif (A.inb a_A (A.ilen (A.iset r3 a_A 0))) then
                                k r1 r2 (A.iset (A.iset r3 a_A 0) a_A (A.rem .i64 (A.add .i64 r13 1) 65536)) 0 0 0 true
                              else
                                none
                            else
                              none
                          else
                            k r1 r2 (A.iset r3 a_A 0) 0 0 0 true
                        else
                          none)
                    else
                      bif (A.eq a_Kind 14) then
                        c_44 r1 a_A (fun r15 r16 r17 =>
                          bif (A.nz 65536) then
                            bif (A.inb a_B (A.ilen r3)) then
                              c_96 a_A r16 (fun r18 r19 r20 =>
                                k r15 r2 (A.iset r3 a_B (A.rem .i64 r16 65536)) r18 r19 r20 true)
                            else
                              none
                          else
                            none)
                      else
                        bif (A.eq a_Kind 15) then
                          bif (A.inb a_A (A.ilen r3)) then
                            bif (A.nz 65536) then
                              bif (A.inb a_A (A.ilen r3)) then
                                k r1 (A.rem .i64 (A.add .i64 r2 (A.iget r3 a_A)) 65536) r3 3 0 (A.iget r3 a_A) true
                              else
                                none
                            else
                              none
                          else
                            none
                        else
                          bif (A.inb a_A (A.ilen r3)) then
                            k r1 r2 (A.iset r3 a_A r2) 0 0 0 true
                          else
                            none)))))
noncomputable def impl_BoostDo (A : PM.Prims) : impl_BoostDo_T := impl_BoostDo_f A (impl_SlotGet A) (impl_ShelfOk A) (impl_copyInts A) (impl_SlotDrop A) (impl_SlotPut A) (impl_copyShelf A) (impl_areValues A) (impl_Touches A) (impl_backTo A)
noncomputable def impl_BoostDo_L (A : PM.Prims) (c_34 : impl_SlotGet_T) (c_41 : impl_ShelfOk_T) (c_84 : impl_copyInts_T) (c_44 : impl_SlotDrop_T) (c_48 : impl_SlotPut_T) (c_91 : impl_copyShelf_T) (c_94 : impl_areValues_T) (c_95 : impl_Touches_T) (c_96 : impl_backTo_T) (n : Nat) : PM.Lam := fun cur σ K =>
  match cur, σ, K with
  | _, _, _ => none
noncomputable def impl_BoostDo_E (A : PM.Prims) (c_34 : impl_SlotGet_T) (c_41 : impl_ShelfOk_T) (c_84 : impl_copyInts_T) (c_44 : impl_SlotDrop_T) (c_48 : impl_SlotPut_T) (c_91 : impl_copyShelf_T) (c_94 : impl_areValues_T) (c_95 : impl_Touches_T) (c_96 : impl_backTo_T) : PM.Env := ⟨[(34, ⟨[], impl_SlotGet_w c_34⟩), (41, ⟨[], impl_ShelfOk_w c_41⟩), (84, ⟨[], impl_copyInts_w c_84⟩), (44, ⟨[], impl_SlotDrop_w c_44⟩), (48, ⟨[], impl_SlotPut_w c_48⟩), (91, ⟨[], impl_copyShelf_w c_91⟩), (94, ⟨[], impl_areValues_w c_94⟩), (95, ⟨[], impl_Touches_w c_95⟩), (96, ⟨[], impl_backTo_w c_96⟩)], [], [], [(0, [2, 3, 4, 6, 8]), (1, [2, 3, 4, 6, 8]), (2, [2, 3, 4, 6, 8]), (3, [2, 3, 4, 6, 8, 35]), (4, [6, 7, 8, 9]), (5, [2, 3, 4, 6, 8, 10]), (6, [2, 3, 4, 6, 8, 10, 41]), (7, [2, 3, 6, 8, 10]), (8, [2, 3, 4, 6, 8, 10, 41, 48]), (9, [2, 3, 4, 6, 8, 10, 11, 12]), (10, [2, 3, 4, 6, 8, 10, 12]), (11, [2, 3, 4, 6, 8, 10, 12]), (12, [2, 3, 6, 8, 10]), (13, [2, 3, 4, 6, 8, 10, 41, 76]), (14, [2, 3, 4, 6, 8, 10, 14, 15]), (15, [2, 3, 4, 6, 8, 10, 14, 15]), (16, [2, 3, 4, 6, 8, 10, 14, 90]), (17, [2, 3, 6, 8, 10]), (18, [2, 3, 4, 6, 8, 10, 41, 98]), (19, [2, 3, 4, 6, 8, 10, 16, 17]), (20, [2, 3, 4, 6, 8, 10, 17]), (21, [2, 3, 4, 6, 8, 10, 17]), (22, [2, 3, 6, 8, 10]), (23, [2, 3, 4, 6, 8, 10, 121]), (24, [2, 3, 4, 6, 8, 10]), (25, [2, 3, 6, 8, 10]), (26, [6, 7, 8, 9])], impl_BoostDo_L A c_34 c_41 c_84 c_44 c_48 c_91 c_94 c_95 c_96 A.fuel⟩
theorem impl_BoostDo_ok (A : PM.Prims) (c_34 : impl_SlotGet_T) (c_41 : impl_ShelfOk_T) (c_84 : impl_copyInts_T) (c_44 : impl_SlotDrop_T) (c_48 : impl_SlotPut_T) (c_91 : impl_copyShelf_T) (c_94 : impl_areValues_T) (c_95 : impl_Touches_T) (c_96 : impl_backTo_T) (___Slots : List Int) (___Count : Int) (a_Kind : Int) (a_A : Int) (a_B : Int) (a_C : Int) (r : List Int) (k : PM.V → PM.R) : PM.pfun A cx [] (impl_BoostDo_E A c_34 c_41 c_84 c_44 c_48 c_91 c_94 c_95 c_96) Go.Proofs.Try.f65 [.agg [.arr (.ints 3 .i64 ___Slots), .int .i64 ___Count], .agg [.int .i64 a_Kind, .int .i64 a_A, .int .i64 a_B, .int .i64 a_C], .arr (.ints 3 .i64 r)] k = impl_BoostDo_f A c_34 c_41 c_84 c_44 c_48 c_91 c_94 c_95 c_96 ___Slots ___Count a_Kind a_A a_B a_C r (fun r0_Slots r0_Count r1 r2_Kind r2_Key r2_Val r3 => k (.tup [.agg [.arr (.ints 3 .i64 r0_Slots), .int .i64 r0_Count], .arr (.ints 3 .i64 r1), .agg [.int .i64 r2_Kind, .int .i64 r2_Key, .int .i64 r2_Val], .bool r3])) := by kernel_rfl

theorem impl_BoostDo_fn : PM.FnIs Try.prog 65 Try.f65 := .of Try.func65 (by kernel_rfl) (by kernel_rfl)
theorem impl_BoostDo_g : PM.GOk Try.prog cx 65 ⟨[], impl_BoostDo_w (impl_BoostDo PM.std)⟩ := by
  refine ⟨impl_BoostDo_fn.enter, fun _ ds k r h => ?_, fun hm => absurd rfl hm⟩
  change impl_BoostDo_w (impl_BoostDo PM.std) ds k = some r at h
  unfold impl_BoostDo_w at h
  split at h
  · exact PM.pfun_ok (E := impl_BoostDo_E PM.std (impl_SlotGet PM.std) (impl_ShelfOk PM.std) (impl_copyInts PM.std) (impl_SlotDrop PM.std) (impl_SlotPut PM.std) (impl_copyShelf PM.std) (impl_areValues PM.std) (impl_Touches PM.std) (impl_backTo PM.std)) (L := fun n => impl_BoostDo_L PM.std (impl_SlotGet PM.std) (impl_ShelfOk PM.std) (impl_copyInts PM.std) (impl_SlotDrop PM.std) (impl_SlotPut PM.std) (impl_copyShelf PM.std) (impl_areValues PM.std) (impl_Touches PM.std) (impl_backTo PM.std) n) (N := PM.std.fuel) cx_ok (.cons impl_SlotGet_g (.cons impl_ShelfOk_g (.cons impl_copyInts_g (.cons impl_SlotDrop_g (.cons impl_SlotPut_g (.cons impl_copyShelf_g (.cons impl_areValues_g (.cons impl_Touches_g (.cons impl_backTo_g .nil))))))))) mixed .nil impl_BoostDo_fn (by kernel_rfl) ⟨rfl, fun _ _ _ => rfl, fun n cur σ K r h => by cases h⟩
      ((impl_BoostDo_ok PM.std (impl_SlotGet PM.std) (impl_ShelfOk PM.std) (impl_copyInts PM.std) (impl_SlotDrop PM.std) (impl_SlotPut PM.std) (impl_copyShelf PM.std) (impl_areValues PM.std) (impl_Touches PM.std) (impl_backTo PM.std) _ _ _ _ _ _ _ k).trans h)
  · cases h

abbrev laws_FnExactBoostDo_T := (List Int) → (Int) → (Int) → (Int) → (Int) → (Int) → (List Int) → ((Bool) → PM.R) → PM.R
noncomputable def laws_FnExactBoostDo_w (c : laws_FnExactBoostDo_T) (ds : List PM.V) (k : PM.V → PM.R) : PM.R :=
  match ds with
  | [.agg [.arr (.ints 3 .i64 ___Slots), .int .i64 ___Count], .agg [.int .i64 a_Kind, .int .i64 a_A, .int .i64 a_B, .int .i64 a_C], .arr (.ints 3 .i64 r)] => c ___Slots ___Count a_Kind a_A a_B a_C r (fun r0 => k (.bool r0))
  | _ => none
noncomputable def laws_FnExactBoostDo_f (A : PM.Prims) (c_24 : laws_eqIntS_T) (c_25 : laws_markIntS_T) (c_26 : laws_heldIntS_T) (c_31 : laws_toIntS_T) (c_36 : laws_toOp_T) (c_38 : laws_szShelf_T) (c_40 : laws_toShelf_T) (c_42 : laws_eqShelf_T) (c_56 : laws_markShelf_T) (c_57 : laws_heldShelf_T) (c_66 : laws_eqUndo_T) (c_64 : spec_BoostDo_T) (c_65 : impl_BoostDo_T) (___Slots : List Int) (___Count : Int) (a_Kind : Int) (a_A : Int) (a_B : Int) (a_C : Int) (r : List Int) (k : (Bool) → PM.R) : PM.R :=
  bif (A.lt 1048576 (A.ilen r)) then
    k true
  else
    c_38 ___Slots ___Count 1048576 (fun r1 =>
      bif (A.lt r1 0) then
        k true
      else
        c_40 ___Slots ___Count (fun r2 r3 =>
          c_36 a_Kind a_A a_B a_C (fun r4 r5 r6 r7 =>
            c_31 r (fun r8 =>
              c_64 r2 r3 r4 r5 r6 r7 r8 (fun r9 r10 r11 r12 r13 r14 r15 =>
                c_40 ___Slots ___Count (fun r16 r17 =>
                  c_31 r (fun r18 =>
                    c_36 a_Kind a_A a_B a_C (fun r19 r20 r21 r22 =>
                      c_65 r16 r17 r19 r20 r21 r22 r18 (fun r23 r24 r25 r26 r27 r28 r29 =>
                        c_42 r23 r24 r9 r10 (fun r30 =>
                          bif (A.not r30) then
                            k false
                          else
                            c_24 r25 r11 (fun r31 =>
                              bif (A.not r31) then
                                k false
                              else
                                c_66 r26 r27 r28 r12 r13 r14 (fun r32 =>
                                  bif (A.not r32) then
                                    k false
                                  else
                                    bif (A.not (A.beq r29 r15)) then
                                      k false
                                    else
                                      c_40 ___Slots ___Count (fun r33 r34 =>
                                        c_42 r16 r17 r33 r34 (fun r35 =>
                                          bif (A.not r35) then
                                            k false
                                          else
                                            c_31 r (fun r36 =>
                                              c_24 r18 r36 (fun r37 =>
                                                bif (A.not r37) then
                                                  k false
                                                else
                                                  c_56 r16 r17 1 (fun r38 r39 =>
                                                    c_25 r18 r38 (fun r40 r41 =>
                                                      bif (A.lt r40 0) then
                                                        k false
                                                      else
                                                        c_42 r23 r24 r9 r10 (fun r42 =>
                                                          bif (A.not r42) then
                                                            k false
                                                          else
                                                            c_24 r25 r11 (fun r43 =>
                                                              bif (A.not r43) then
                                                                k false
                                                              else
                                                                c_66 r26 r27 r28 r12 r13 r14 (fun r44 =>
                                                                  bif (A.not r44) then
                                                                    k false
                                                                  else
                                                                    bif (A.not (A.beq r29 r15)) then
                                                                      k false
                                                                    else
                                                                      c_56 r23 r24 1 (fun r45 r46 =>
                                                                        c_25 r25 r45 (fun r47 r48 =>
                                                                          c_57 r46 r24 1 (fun r49 =>
                                                                            bif (A.lt r49 0) then
                                                                              k false
                                                                            else
                                                                              c_26 r48 r49 (fun r50 =>
                                                                                bif (A.lt r50 0) then
                                                                                  k false
                                                                                else
                                                                                  bif (A.not (A.eq r50 r47)) then
                                                                                    k false
                                                                                  else
                                                                                    c_40 ___Slots ___Count (fun r51 r52 =>
                                                                                      c_36 a_Kind a_A a_B a_C (fun r53 r54 r55 r56 =>
                                                                                        c_31 r (fun r57 =>
                                                                                          c_65 r51 r52 r53 r54 r55 r56 r57 (fun r58 r59 r60 r61 r62 r63 r64 =>
                                                                                            c_42 r58 r59 r9 r10 (fun r65 =>
                                                                                              bif (A.not r65) then
                                                                                                k false
                                                                                              else
                                                                                                c_24 r60 r11 (fun r66 =>
                                                                                                  bif (A.not r66) then
                                                                                                    k false
                                                                                                  else
                                                                                                    c_66 r61 r62 r63 r12 r13 r14 (fun r67 =>
                                                                                                      bif (A.not r67) then
                                                                                                        k false
                                                                                                      else
                                                                                                        bif (A.not (A.beq r64 r15)) then
                                                                                                          k false
                                                                                                        else
                                                                                                          c_57 r46 r24 1 (fun r68 =>
                                                                                                            bif (A.lt r68 0) then
                                                                                                              k false
                                                                                                            else
                                                                                                              c_26 r48 r68 (fun r69 =>
                                                                                                                bif (A.lt r69 0) then
                                                                                                                  k false
                                                                                                                else
                                                                                                                  bif (A.not (A.eq r69 r47)) then
                                                                                                                    k false
                                                                                                                  else
                                                                                                                    k true))))))))))))))))))))))))))))))))))
noncomputable def laws_FnExactBoostDo (A : PM.Prims) : laws_FnExactBoostDo_T := laws_FnExactBoostDo_f A (laws_eqIntS A) (laws_markIntS A) (laws_heldIntS A) (laws_toIntS A) (laws_toOp A) (laws_szShelf A) (laws_toShelf A) (laws_eqShelf A) (laws_markShelf A) (laws_heldShelf A) (laws_eqUndo A) (spec_BoostDo A) (impl_BoostDo A)
noncomputable def laws_FnExactBoostDo_L (A : PM.Prims) (c_24 : laws_eqIntS_T) (c_25 : laws_markIntS_T) (c_26 : laws_heldIntS_T) (c_31 : laws_toIntS_T) (c_36 : laws_toOp_T) (c_38 : laws_szShelf_T) (c_40 : laws_toShelf_T) (c_42 : laws_eqShelf_T) (c_56 : laws_markShelf_T) (c_57 : laws_heldShelf_T) (c_66 : laws_eqUndo_T) (c_64 : spec_BoostDo_T) (c_65 : impl_BoostDo_T) (n : Nat) : PM.Lam := fun cur σ K =>
  match cur, σ, K with
  | _, _, _ => none
noncomputable def laws_FnExactBoostDo_E (A : PM.Prims) (c_24 : laws_eqIntS_T) (c_25 : laws_markIntS_T) (c_26 : laws_heldIntS_T) (c_31 : laws_toIntS_T) (c_36 : laws_toOp_T) (c_38 : laws_szShelf_T) (c_40 : laws_toShelf_T) (c_42 : laws_eqShelf_T) (c_56 : laws_markShelf_T) (c_57 : laws_heldShelf_T) (c_66 : laws_eqUndo_T) (c_64 : spec_BoostDo_T) (c_65 : impl_BoostDo_T) : PM.Env := ⟨[(24, ⟨[], laws_eqIntS_w c_24⟩), (25, ⟨[true, false], laws_markIntS_w c_25⟩), (26, ⟨[], laws_heldIntS_w c_26⟩), (31, ⟨[], laws_toIntS_w c_31⟩), (36, ⟨[], laws_toOp_w c_36⟩), (38, ⟨[], laws_szShelf_w c_38⟩), (40, ⟨[], laws_toShelf_w c_40⟩), (42, ⟨[], laws_eqShelf_w c_42⟩), (56, ⟨[true, false], laws_markShelf_w c_56⟩), (57, ⟨[], laws_heldShelf_w c_57⟩), (66, ⟨[], laws_eqUndo_w c_66⟩), (64, ⟨[], spec_BoostDo_w c_64⟩), (65, ⟨[], impl_BoostDo_w c_65⟩)], [], [], [(0, [2, 3, 4]), (1, [2, 3, 4, 27]), (2, [6]), (3, [2, 3, 4, 7]), (4, [2, 3, 4, 7]), (5, [2, 3, 4, 32]), (6, [6]), (7, [2, 3, 4, 8, 9, 10, 11]), (8, [2, 3, 4, 8, 9, 10, 11, 12]), (9, [2, 3, 4, 8, 9, 10, 11, 12, 13]), (10, [2, 3, 4, 8, 9, 10, 11, 12, 13, 14, 15, 16, 17]), (11, [2, 3, 4, 8, 9, 10, 11, 12, 13, 14, 15, 16, 17, 79]), (12, [6]), (13, [2, 3, 4, 8, 9, 10, 11, 12, 13, 14, 15, 16, 17, 84]), (14, [6]), (15, [2, 3, 4, 8, 9, 10, 11, 12, 13, 14, 15, 16, 17, 89]), (16, [6]), (17, [2, 3, 4, 8, 9, 10, 11, 12, 13, 14, 15, 16, 17, 18]), (18, [2, 3, 4, 8, 9, 10, 11, 13, 14, 15, 16, 17, 18]), (19, [2, 3, 4, 8, 9, 10, 11, 14, 15, 16, 17, 18]), (20, [2, 3, 4, 8, 9, 10, 11, 14, 15, 120]), (21, [6]), (22, [2, 3, 4, 8, 9, 10, 11, 14, 15, 19]), (23, [2, 3, 4, 8, 9, 10, 11, 14, 15, 19]), (24, [2, 3, 4, 8, 9, 10, 11, 14, 15, 19]), (25, [2, 3, 4, 8, 9, 10, 11, 14, 15, 19, 20]), (26, [2, 3, 4, 8, 9, 10, 11, 14, 15, 19, 20]), (27, [2, 3, 4, 8, 9, 10, 11, 14, 15, 19, 20, 131]), (28, [6]), (29, [2, 3, 4, 8, 9, 10, 11, 14, 15, 19, 20]), (30, [2, 3, 4, 8, 9, 10, 11, 14, 15, 19, 20, 136]), (31, [6]), (32, [2, 3, 4, 8, 9, 10, 11, 14, 15, 19, 139]), (33, [6]), (34, [8, 9, 10, 11, 14, 15, 19, 21, 22, 23, 24]), (35, [14, 15, 19, 172]), (36, [6]), (37, [14, 15, 19, 20]), (38, [15, 19, 20]), (39, [15, 19, 20, 177]), (40, [6]), (41, [19, 20]), (42, [19, 20, 182]), (43, [6]), (44, [185]), (45, [6]), (46, [6])], laws_FnExactBoostDo_L A c_24 c_25 c_26 c_31 c_36 c_38 c_40 c_42 c_56 c_57 c_66 c_64 c_65 A.fuel⟩
theorem laws_FnExactBoostDo_ok (A : PM.Prims) (c_24 : laws_eqIntS_T) (c_25 : laws_markIntS_T) (c_26 : laws_heldIntS_T) (c_31 : laws_toIntS_T) (c_36 : laws_toOp_T) (c_38 : laws_szShelf_T) (c_40 : laws_toShelf_T) (c_42 : laws_eqShelf_T) (c_56 : laws_markShelf_T) (c_57 : laws_heldShelf_T) (c_66 : laws_eqUndo_T) (c_64 : spec_BoostDo_T) (c_65 : impl_BoostDo_T) (___Slots : List Int) (___Count : Int) (a_Kind : Int) (a_A : Int) (a_B : Int) (a_C : Int) (r : List Int) (k : PM.V → PM.R) : PM.pfun A cx [] (laws_FnExactBoostDo_E A c_24 c_25 c_26 c_31 c_36 c_38 c_40 c_42 c_56 c_57 c_66 c_64 c_65) Go.Proofs.Try.f17 [.agg [.arr (.ints 3 .i64 ___Slots), .int .i64 ___Count], .agg [.int .i64 a_Kind, .int .i64 a_A, .int .i64 a_B, .int .i64 a_C], .arr (.ints 3 .i64 r)] k = laws_FnExactBoostDo_f A c_24 c_25 c_26 c_31 c_36 c_38 c_40 c_42 c_56 c_57 c_66 c_64 c_65 ___Slots ___Count a_Kind a_A a_B a_C r (fun r0 => k (.bool r0)) := by kernel_rfl

theorem laws_FnExactBoostDo_fn : PM.FnIs Try.prog 17 Try.f17 := .of Try.func17 (by kernel_rfl) (by kernel_rfl)
theorem laws_FnExactBoostDo_g : PM.GOk Try.prog cx 17 ⟨[], laws_FnExactBoostDo_w (laws_FnExactBoostDo PM.std)⟩ := by
  refine ⟨laws_FnExactBoostDo_fn.enter, fun _ ds k r h => ?_, fun hm => absurd rfl hm⟩
  change laws_FnExactBoostDo_w (laws_FnExactBoostDo PM.std) ds k = some r at h
  unfold laws_FnExactBoostDo_w at h
  split at h
  · exact PM.pfun_ok (E := laws_FnExactBoostDo_E PM.std (laws_eqIntS PM.std) (laws_markIntS PM.std) (laws_heldIntS PM.std) (laws_toIntS PM.std) (laws_toOp PM.std) (laws_szShelf PM.std) (laws_toShelf PM.std) (laws_eqShelf PM.std) (laws_markShelf PM.std) (laws_heldShelf PM.std) (laws_eqUndo PM.std) (spec_BoostDo PM.std) (impl_BoostDo PM.std)) (L := fun n => laws_FnExactBoostDo_L PM.std (laws_eqIntS PM.std) (laws_markIntS PM.std) (laws_heldIntS PM.std) (laws_toIntS PM.std) (laws_toOp PM.std) (laws_szShelf PM.std) (laws_toShelf PM.std) (laws_eqShelf PM.std) (laws_markShelf PM.std) (laws_heldShelf PM.std) (laws_eqUndo PM.std) (spec_BoostDo PM.std) (impl_BoostDo PM.std) n) (N := PM.std.fuel) cx_ok (.cons laws_eqIntS_g (.cons laws_markIntS_g (.cons laws_heldIntS_g (.cons laws_toIntS_g (.cons laws_toOp_g (.cons laws_szShelf_g (.cons laws_toShelf_g (.cons laws_eqShelf_g (.cons laws_markShelf_g (.cons laws_heldShelf_g (.cons laws_eqUndo_g (.cons spec_BoostDo_g (.cons impl_BoostDo_g .nil))))))))))))) mixed .nil laws_FnExactBoostDo_fn (by kernel_rfl) ⟨rfl, fun _ _ _ => rfl, fun n cur σ K r h => by cases h⟩
      ((laws_FnExactBoostDo_ok PM.std (laws_eqIntS PM.std) (laws_markIntS PM.std) (laws_heldIntS PM.std) (laws_toIntS PM.std) (laws_toOp PM.std) (laws_szShelf PM.std) (laws_toShelf PM.std) (laws_eqShelf PM.std) (laws_markShelf PM.std) (laws_heldShelf PM.std) (laws_eqUndo PM.std) (spec_BoostDo PM.std) (impl_BoostDo PM.std) _ _ _ _ _ _ _ k).trans h)
  · cases h

end X
