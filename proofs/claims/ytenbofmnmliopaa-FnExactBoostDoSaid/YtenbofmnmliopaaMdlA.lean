/- Models of the functions, or plain laws about them; each theorem states its own conditions. -/
import Derived.Test.YtenbofmnmliopaaL3
import Derived.Test.YtenbofmnmliopaaProg
import Derived.KernelRfl
set_option linter.unusedVariables false
set_option linter.unusedSimpArgs false
open Go.Proofs
namespace X
open PM
set_option maxRecDepth 100000
set_option maxHeartbeats 4000000
noncomputable def cx : PM.Cx := [
  (2, ⟨1, false, [.int .i64 0], none, 0, none, [], [], [], [.int .i64], false⟩),
  (3, ⟨1, false, [.int .i64 0], none, 0, none, [], [], [], [.int .i64], false⟩),
  (4, ⟨1, false, [.bool false], none, 0, none, [], [], [], [.bool], false⟩),
  (5, ⟨1, false, [.int .u8 0], none, 0, none, [], [], [], [.int .u8], false⟩),
  (6, ⟨1, false, [.int .u8 0], none, 0, none, [], [], [], [.int .u8], false⟩),
  (7, ⟨4, true, [.int .i64 0, .int .i64 0, .bool false, .int .u8 0], none, 0, none, [0, 1, 2, 3], [1, 1, 1, 1], [2, 3, 4, 6], [.int .i64, .int .i64, .bool, .int .u8], true⟩),
  (8, ⟨4, true, [.int .i64 0, .int .i64 0, .bool false, .int .u8 0], none, 0, none, [0, 1, 2, 3], [1, 1, 1, 1], [2, 3, 4, 6], [.int .i64, .int .i64, .bool, .int .u8], true⟩),
  (12, ⟨1, false, [.int .u64 0], none, 0, none, [], [], [], [.int .u64], false⟩),
  (21, ⟨1, false, [.int .i32 0], none, 0, none, [], [], [], [.int .i32], false⟩),
  (24, ⟨1, false, [.arr (.emp (.ints 3 .i64))], some (.ints 3 .i64), 1, none, [], [], [], [.sl 24], false⟩),
  (29, ⟨3, true, [.int .i64 0, .int .i64 0, .int .i64 0], none, 0, none, [0, 1, 2], [1, 1, 1], [3, 3, 3], [.int .i64, .int .i64, .int .i64], true⟩),
  (30, ⟨3, true, [.int .i64 0, .int .i64 0, .int .i64 0], none, 0, none, [0, 1, 2], [1, 1, 1], [3, 3, 3], [.int .i64, .int .i64, .int .i64], true⟩),
  (32, ⟨3, true, [.int .i64 0, .int .i64 0, .int .i64 0], none, 0, none, [0, 1, 2], [1, 1, 1], [3, 3, 3], [.int .i64, .int .i64, .int .i64], true⟩),
  (40, ⟨4, true, [.int .i64 0, .int .i64 0, .int .i64 0, .int .i64 0], none, 0, none, [0, 1, 2, 3], [1, 1, 1, 1], [3, 3, 3, 3], [.int .i64, .int .i64, .int .i64, .int .i64], true⟩),
  (41, ⟨4, true, [.int .i64 0, .int .i64 0, .int .i64 0, .int .i64 0], none, 0, none, [0, 1, 2, 3], [1, 1, 1, 1], [3, 3, 3, 3], [.int .i64, .int .i64, .int .i64, .int .i64], true⟩),
  (44, ⟨4, true, [.int .i64 0, .int .i64 0, .int .i64 0, .int .i64 0], none, 0, none, [0, 1, 2, 3], [1, 1, 1, 1], [3, 3, 3, 3], [.int .i64, .int .i64, .int .i64, .int .i64], true⟩),
  (47, ⟨2, true, [.arr (.emp (.ints 3 .i64)), .int .i64 0], none, 0, none, [0, 1], [1, 1], [24, 3], [.sl 24, .int .i64], false⟩),
  (48, ⟨2, true, [.arr (.emp (.ints 3 .i64)), .int .i64 0], none, 0, none, [0, 1], [1, 1], [24, 3], [.sl 24, .int .i64], false⟩),
  (51, ⟨2, true, [.arr (.emp (.ints 3 .i64)), .int .i64 0], none, 0, none, [0, 1], [1, 1], [24, 3], [.sl 24, .int .i64], false⟩),
  (59, ⟨1, false, [.arr (.emp (.ints 5 .u8))], some (.ints 5 .u8), 1, none, [], [], [], [.sl 59], false⟩),
  (67, ⟨1, false, [.arr (.emp (.vecs 30 3))], some (.vecs 30 3), 3, none, [], [], [], [.sl 67], false⟩),
  (70, ⟨1, false, [.arr (.emp (.vecs 32 3))], some (.vecs 32 3), 3, none, [], [], [], [.sl 70], false⟩),
  (83, ⟨1, false, [.arr (.emp (.bools 4))], some (.bools 4), 1, none, [], [], [], [.sl 83], false⟩),
  (86, ⟨8, true, [], some (.bools 86), 1, some 8, [], [], [], [], false⟩),
  (101, ⟨3, true, [.arr (.emp (.ints 5 .u8)), .int .i64 0, .int .i64 0], none, 0, none, [0, 1, 2], [1, 1, 1], [59, 3, 3], [.sl 59, .int .i64, .int .i64], false⟩),
  (102, ⟨3, true, [.arr (.emp (.ints 5 .u8)), .int .i64 0, .int .i64 0], none, 0, none, [0, 1, 2], [1, 1, 1], [59, 3, 3], [.sl 59, .int .i64, .int .i64], false⟩),
  (103, ⟨1, false, [.int .u64 0], none, 0, none, [], [], [], [.int .u64], false⟩),
  (111, ⟨1, false, [.int .u32 0], none, 0, none, [], [], [], [.int .u32], false⟩),
  (112, ⟨1, false, [.int .u8 0], none, 0, none, [], [], [], [.int .u8], false⟩),
  (113, ⟨1, false, [.int .u8 0], none, 0, none, [], [], [], [.int .u8], false⟩),
  (116, ⟨1, false, [.int .i32 0], none, 0, none, [], [], [], [.int .i32], false⟩),
  (117, ⟨1, false, [.int .i32 0], none, 0, none, [], [], [], [.int .i32], false⟩)]
theorem mixed : Try.prog.follows .mixedOrders = true := by kernel_rfl
theorem cx_ok : PM.CxOk Try.prog cx := PM.cxChk_ok (by kernel_rfl)
theorem cx_read : PM.CxRead Try.prog cx := PM.cxRead_ok (by kernel_rfl)

theorem cx_at2 : PM.find cx 2 = some ⟨1, false, [.int .i64 0], none, 0, none, [], [], [], [.int .i64], false⟩ := by kernel_rfl
theorem cx_at3 : PM.find cx 3 = some ⟨1, false, [.int .i64 0], none, 0, none, [], [], [], [.int .i64], false⟩ := by kernel_rfl
theorem cx_at4 : PM.find cx 4 = some ⟨1, false, [.bool false], none, 0, none, [], [], [], [.bool], false⟩ := by kernel_rfl
theorem cx_at5 : PM.find cx 5 = some ⟨1, false, [.int .u8 0], none, 0, none, [], [], [], [.int .u8], false⟩ := by kernel_rfl
theorem cx_at6 : PM.find cx 6 = some ⟨1, false, [.int .u8 0], none, 0, none, [], [], [], [.int .u8], false⟩ := by kernel_rfl
theorem cx_at7 : PM.find cx 7 = some ⟨4, true, [.int .i64 0, .int .i64 0, .bool false, .int .u8 0], none, 0, none, [0, 1, 2, 3], [1, 1, 1, 1], [2, 3, 4, 6], [.int .i64, .int .i64, .bool, .int .u8], true⟩ := by kernel_rfl
theorem cx_at8 : PM.find cx 8 = some ⟨4, true, [.int .i64 0, .int .i64 0, .bool false, .int .u8 0], none, 0, none, [0, 1, 2, 3], [1, 1, 1, 1], [2, 3, 4, 6], [.int .i64, .int .i64, .bool, .int .u8], true⟩ := by kernel_rfl
theorem cx_at12 : PM.find cx 12 = some ⟨1, false, [.int .u64 0], none, 0, none, [], [], [], [.int .u64], false⟩ := by kernel_rfl
theorem cx_at21 : PM.find cx 21 = some ⟨1, false, [.int .i32 0], none, 0, none, [], [], [], [.int .i32], false⟩ := by kernel_rfl
theorem cx_at24 : PM.find cx 24 = some ⟨1, false, [.arr (.emp (.ints 3 .i64))], some (.ints 3 .i64), 1, none, [], [], [], [.sl 24], false⟩ := by kernel_rfl
theorem cx_at29 : PM.find cx 29 = some ⟨3, true, [.int .i64 0, .int .i64 0, .int .i64 0], none, 0, none, [0, 1, 2], [1, 1, 1], [3, 3, 3], [.int .i64, .int .i64, .int .i64], true⟩ := by kernel_rfl
theorem cx_at30 : PM.find cx 30 = some ⟨3, true, [.int .i64 0, .int .i64 0, .int .i64 0], none, 0, none, [0, 1, 2], [1, 1, 1], [3, 3, 3], [.int .i64, .int .i64, .int .i64], true⟩ := by kernel_rfl
theorem cx_at32 : PM.find cx 32 = some ⟨3, true, [.int .i64 0, .int .i64 0, .int .i64 0], none, 0, none, [0, 1, 2], [1, 1, 1], [3, 3, 3], [.int .i64, .int .i64, .int .i64], true⟩ := by kernel_rfl
theorem cx_at40 : PM.find cx 40 = some ⟨4, true, [.int .i64 0, .int .i64 0, .int .i64 0, .int .i64 0], none, 0, none, [0, 1, 2, 3], [1, 1, 1, 1], [3, 3, 3, 3], [.int .i64, .int .i64, .int .i64, .int .i64], true⟩ := by kernel_rfl
theorem cx_at41 : PM.find cx 41 = some ⟨4, true, [.int .i64 0, .int .i64 0, .int .i64 0, .int .i64 0], none, 0, none, [0, 1, 2, 3], [1, 1, 1, 1], [3, 3, 3, 3], [.int .i64, .int .i64, .int .i64, .int .i64], true⟩ := by kernel_rfl
theorem cx_at44 : PM.find cx 44 = some ⟨4, true, [.int .i64 0, .int .i64 0, .int .i64 0, .int .i64 0], none, 0, none, [0, 1, 2, 3], [1, 1, 1, 1], [3, 3, 3, 3], [.int .i64, .int .i64, .int .i64, .int .i64], true⟩ := by kernel_rfl
theorem cx_at47 : PM.find cx 47 = some ⟨2, true, [.arr (.emp (.ints 3 .i64)), .int .i64 0], none, 0, none, [0, 1], [1, 1], [24, 3], [.sl 24, .int .i64], false⟩ := by kernel_rfl
theorem cx_at48 : PM.find cx 48 = some ⟨2, true, [.arr (.emp (.ints 3 .i64)), .int .i64 0], none, 0, none, [0, 1], [1, 1], [24, 3], [.sl 24, .int .i64], false⟩ := by kernel_rfl
theorem cx_at51 : PM.find cx 51 = some ⟨2, true, [.arr (.emp (.ints 3 .i64)), .int .i64 0], none, 0, none, [0, 1], [1, 1], [24, 3], [.sl 24, .int .i64], false⟩ := by kernel_rfl
theorem cx_at59 : PM.find cx 59 = some ⟨1, false, [.arr (.emp (.ints 5 .u8))], some (.ints 5 .u8), 1, none, [], [], [], [.sl 59], false⟩ := by kernel_rfl
theorem cx_at67 : PM.find cx 67 = some ⟨1, false, [.arr (.emp (.vecs 30 3))], some (.vecs 30 3), 3, none, [], [], [], [.sl 67], false⟩ := by kernel_rfl
theorem cx_at70 : PM.find cx 70 = some ⟨1, false, [.arr (.emp (.vecs 32 3))], some (.vecs 32 3), 3, none, [], [], [], [.sl 70], false⟩ := by kernel_rfl
theorem cx_at83 : PM.find cx 83 = some ⟨1, false, [.arr (.emp (.bools 4))], some (.bools 4), 1, none, [], [], [], [.sl 83], false⟩ := by kernel_rfl
theorem cx_at86 : PM.find cx 86 = some ⟨8, true, [], some (.bools 86), 1, some 8, [], [], [], [], false⟩ := by kernel_rfl
theorem cx_at101 : PM.find cx 101 = some ⟨3, true, [.arr (.emp (.ints 5 .u8)), .int .i64 0, .int .i64 0], none, 0, none, [0, 1, 2], [1, 1, 1], [59, 3, 3], [.sl 59, .int .i64, .int .i64], false⟩ := by kernel_rfl
theorem cx_at102 : PM.find cx 102 = some ⟨3, true, [.arr (.emp (.ints 5 .u8)), .int .i64 0, .int .i64 0], none, 0, none, [0, 1, 2], [1, 1, 1], [59, 3, 3], [.sl 59, .int .i64, .int .i64], false⟩ := by kernel_rfl
theorem cx_at103 : PM.find cx 103 = some ⟨1, false, [.int .u64 0], none, 0, none, [], [], [], [.int .u64], false⟩ := by kernel_rfl
theorem cx_at111 : PM.find cx 111 = some ⟨1, false, [.int .u32 0], none, 0, none, [], [], [], [.int .u32], false⟩ := by kernel_rfl
theorem cx_at112 : PM.find cx 112 = some ⟨1, false, [.int .u8 0], none, 0, none, [], [], [], [.int .u8], false⟩ := by kernel_rfl
theorem cx_at113 : PM.find cx 113 = some ⟨1, false, [.int .u8 0], none, 0, none, [], [], [], [.int .u8], false⟩ := by kernel_rfl
theorem cx_at116 : PM.find cx 116 = some ⟨1, false, [.int .i32 0], none, 0, none, [], [], [], [.int .i32], false⟩ := by kernel_rfl
theorem cx_at117 : PM.find cx 117 = some ⟨1, false, [.int .i32 0], none, 0, none, [], [], [], [.int .i32], false⟩ := by kernel_rfl

abbrev spec_l1In_T := (Int) → (Int) → (Int) → ((Bool) → PM.R) → PM.R
noncomputable def spec_l1In_w (c : spec_l1In_T) (ds : List PM.V) (k : PM.V → PM.R) : PM.R :=
  match ds with
  | [.int .i64 x, .int .i64 low, .int .i64 high] => c x low high (fun r0 => k (.bool r0))
  | _ => none
noncomputable def spec_l1In_f (A : PM.Prims) (x : Int) (low : Int) (high : Int) (k : (Bool) → PM.R) : PM.R :=
  bif (A.le low x) then
    k (A.le x high)
  else
    k false
noncomputable def spec_l1In (A : PM.Prims) : spec_l1In_T := spec_l1In_f A
noncomputable def spec_l1In_L (A : PM.Prims) (n : Nat) : PM.Lam := fun cur σ K =>
  match cur, σ, K with
  | _, _, _ => none
noncomputable def spec_l1In_E (A : PM.Prims) : PM.Env := ⟨[], [], [], [(0, [0, 1, 2]), (1, [6])], spec_l1In_L A A.fuel⟩
theorem spec_l1In_ok (A : PM.Prims) (x : Int) (low : Int) (high : Int) (k : PM.V → PM.R) : PM.pfun A cx [] (spec_l1In_E A) Go.Proofs.Try.f74 [.int .i64 x, .int .i64 low, .int .i64 high] k = spec_l1In_f A x low high (fun r0 => k (.bool r0)) := by kernel_rfl

theorem spec_l1In_fn : PM.FnIs Try.prog 74 Try.f74 := .of Try.func74 (by kernel_rfl) (by kernel_rfl)
theorem spec_l1In_g : PM.GOk Try.prog cx 74 ⟨[], spec_l1In_w (spec_l1In PM.std)⟩ := by
  refine ⟨spec_l1In_fn.enter, fun _ ds k r h => ?_, fun hm => absurd rfl hm⟩
  change spec_l1In_w (spec_l1In PM.std) ds k = some r at h
  unfold spec_l1In_w at h
  split at h
  · exact PM.pfun_ok (E := spec_l1In_E PM.std) (L := fun n => spec_l1In_L PM.std n) (N := PM.std.fuel) cx_ok .nil mixed .nil spec_l1In_fn (by kernel_rfl) ⟨rfl, fun _ _ _ => rfl, fun n cur σ K r h => by cases h⟩
      ((spec_l1In_ok PM.std _ _ _ k).trans h)
  · cases h

abbrev spec_l15Key_T := (Int) → ((Bool) → PM.R) → PM.R
noncomputable def spec_l15Key_w (c : spec_l15Key_T) (ds : List PM.V) (k : PM.V → PM.R) : PM.R :=
  match ds with
  | [.int .i64 k_] => c k_ (fun r0 => k (.bool r0))
  | _ => none
noncomputable def spec_l15Key_f (A : PM.Prims) (c_74 : spec_l1In_T) (k_ : Int) (k : (Bool) → PM.R) : PM.R :=
  c_74 k_ 0 7 (fun r1 =>
    k r1)
noncomputable def spec_l15Key (A : PM.Prims) : spec_l15Key_T := spec_l15Key_f A (spec_l1In A)
noncomputable def spec_l15Key_L (A : PM.Prims) (c_74 : spec_l1In_T) (n : Nat) : PM.Lam := fun cur σ K =>
  match cur, σ, K with
  | _, _, _ => none
noncomputable def spec_l15Key_E (A : PM.Prims) (c_74 : spec_l1In_T) : PM.Env := ⟨[(74, ⟨[], spec_l1In_w c_74⟩)], [], [], [(0, [0]), (1, [2])], spec_l15Key_L A c_74 A.fuel⟩
theorem spec_l15Key_ok (A : PM.Prims) (c_74 : spec_l1In_T) (k_ : Int) (k : PM.V → PM.R) : PM.pfun A cx [] (spec_l15Key_E A c_74) Go.Proofs.Try.f70 [.int .i64 k_] k = spec_l15Key_f A c_74 k_ (fun r0 => k (.bool r0)) := by kernel_rfl

theorem spec_l15Key_fn : PM.FnIs Try.prog 70 Try.f70 := .of Try.func70 (by kernel_rfl) (by kernel_rfl)
theorem spec_l15Key_g : PM.GOk Try.prog cx 70 ⟨[], spec_l15Key_w (spec_l15Key PM.std)⟩ := by
  refine ⟨spec_l15Key_fn.enter, fun _ ds k r h => ?_, fun hm => absurd rfl hm⟩
  change spec_l15Key_w (spec_l15Key PM.std) ds k = some r at h
  unfold spec_l15Key_w at h
  split at h
  · exact PM.pfun_ok (E := spec_l15Key_E PM.std (spec_l1In PM.std)) (L := fun n => spec_l15Key_L PM.std (spec_l1In PM.std) n) (N := PM.std.fuel) cx_ok (.cons spec_l1In_g .nil) mixed .nil spec_l15Key_fn (by kernel_rfl) ⟨rfl, fun _ _ _ => rfl, fun n cur σ K r h => by cases h⟩
      ((spec_l15Key_ok PM.std (spec_l1In PM.std) _ k).trans h)
  · cases h

abbrev spec_BucketOf_T := (Int) → ((Int) → PM.R) → PM.R
noncomputable def spec_BucketOf_w (c : spec_BucketOf_T) (ds : List PM.V) (k : PM.V → PM.R) : PM.R :=
  match ds with
  | [.int .i64 key] => c key (fun r0 => k (.int .i64 r0))
  | _ => none
noncomputable def spec_BucketOf_f (A : PM.Prims) (c_70 : spec_l15Key_T) (key : Int) (k : (Int) → PM.R) : PM.R :=
  c_70 key (fun r1 =>
    bif (A.not r1) then
      k (-1)
    else
      bif (A.nz 4) then
        k (A.rem .i64 (A.add .i64 (A.mul .i64 key 7) 3) 4)
      else
        none)
noncomputable def spec_BucketOf (A : PM.Prims) : spec_BucketOf_T := spec_BucketOf_f A (spec_l15Key A)
noncomputable def spec_BucketOf_L (A : PM.Prims) (c_70 : spec_l15Key_T) (n : Nat) : PM.Lam := fun cur σ K =>
  match cur, σ, K with
  | _, _, _ => none
noncomputable def spec_BucketOf_E (A : PM.Prims) (c_70 : spec_l15Key_T) : PM.Env := ⟨[(70, ⟨[], spec_l15Key_w c_70⟩)], [], [], [(0, [0]), (1, [0, 5]), (2, [2]), (3, [2])], spec_BucketOf_L A c_70 A.fuel⟩
theorem spec_BucketOf_ok (A : PM.Prims) (c_70 : spec_l15Key_T) (key : Int) (k : PM.V → PM.R) : PM.pfun A cx [] (spec_BucketOf_E A c_70) Go.Proofs.Try.f20 [.int .i64 key] k = spec_BucketOf_f A c_70 key (fun r0 => k (.int .i64 r0)) := by kernel_rfl

theorem spec_BucketOf_fn : PM.FnIs Try.prog 20 Try.f20 := .of Try.func20 (by kernel_rfl) (by kernel_rfl)
theorem spec_BucketOf_g : PM.GOk Try.prog cx 20 ⟨[], spec_BucketOf_w (spec_BucketOf PM.std)⟩ := by
  refine ⟨spec_BucketOf_fn.enter, fun _ ds k r h => ?_, fun hm => absurd rfl hm⟩
  change spec_BucketOf_w (spec_BucketOf PM.std) ds k = some r at h
  unfold spec_BucketOf_w at h
  split at h
  · exact PM.pfun_ok (E := spec_BucketOf_E PM.std (spec_l15Key PM.std)) (L := fun n => spec_BucketOf_L PM.std (spec_l15Key PM.std) n) (N := PM.std.fuel) cx_ok (.cons spec_l15Key_g .nil) mixed .nil spec_BucketOf_fn (by kernel_rfl) ⟨rfl, fun _ _ _ => rfl, fun n cur σ K r h => by cases h⟩
      ((spec_BucketOf_ok PM.std (spec_l15Key PM.std) _ k).trans h)
  · cases h

abbrev impl_within_T := (Int) → (Int) → (Int) → ((Bool) → PM.R) → PM.R
noncomputable def impl_within_w (c : impl_within_T) (ds : List PM.V) (k : PM.V → PM.R) : PM.R :=
  match ds with
  | [.int .i64 x, .int .i64 lo, .int .i64 hi] => c x lo hi (fun r0 => k (.bool r0))
  | _ => none
noncomputable def impl_within_f (A : PM.Prims) (x : Int) (lo : Int) (hi : Int) (k : (Bool) → PM.R) : PM.R :=
  bif (A.le lo x) then
    k (A.le x hi)
  else
    k false
noncomputable def impl_within (A : PM.Prims) : impl_within_T := impl_within_f A
noncomputable def impl_within_L (A : PM.Prims) (n : Nat) : PM.Lam := fun cur σ K =>
  match cur, σ, K with
  | _, _, _ => none
noncomputable def impl_within_E (A : PM.Prims) : PM.Env := ⟨[], [], [], [(0, [0, 1, 2]), (1, [6])], impl_within_L A A.fuel⟩
theorem impl_within_ok (A : PM.Prims) (x : Int) (lo : Int) (hi : Int) (k : PM.V → PM.R) : PM.pfun A cx [] (impl_within_E A) Go.Proofs.Try.f76 [.int .i64 x, .int .i64 lo, .int .i64 hi] k = impl_within_f A x lo hi (fun r0 => k (.bool r0)) := by kernel_rfl

theorem impl_within_fn : PM.FnIs Try.prog 76 Try.f76 := .of Try.func76 (by kernel_rfl) (by kernel_rfl)
theorem impl_within_g : PM.GOk Try.prog cx 76 ⟨[], impl_within_w (impl_within PM.std)⟩ := by
  refine ⟨impl_within_fn.enter, fun _ ds k r h => ?_, fun hm => absurd rfl hm⟩
  change impl_within_w (impl_within PM.std) ds k = some r at h
  unfold impl_within_w at h
  split at h
  · exact PM.pfun_ok (E := impl_within_E PM.std) (L := fun n => impl_within_L PM.std n) (N := PM.std.fuel) cx_ok .nil mixed .nil impl_within_fn (by kernel_rfl) ⟨rfl, fun _ _ _ => rfl, fun n cur σ K r h => by cases h⟩
      ((impl_within_ok PM.std _ _ _ k).trans h)
  · cases h

abbrev impl_isKey_T := (Int) → ((Bool) → PM.R) → PM.R
noncomputable def impl_isKey_w (c : impl_isKey_T) (ds : List PM.V) (k : PM.V → PM.R) : PM.R :=
  match ds with
  | [.int .i64 k_] => c k_ (fun r0 => k (.bool r0))
  | _ => none
noncomputable def impl_isKey_f (A : PM.Prims) (c_76 : impl_within_T) (k_ : Int) (k : (Bool) → PM.R) : PM.R :=
  c_76 k_ 0 7 (fun r1 =>
    k r1)
noncomputable def impl_isKey (A : PM.Prims) : impl_isKey_T := impl_isKey_f A (impl_within A)
noncomputable def impl_isKey_L (A : PM.Prims) (c_76 : impl_within_T) (n : Nat) : PM.Lam := fun cur σ K =>
  match cur, σ, K with
  | _, _, _ => none
noncomputable def impl_isKey_E (A : PM.Prims) (c_76 : impl_within_T) : PM.Env := ⟨[(76, ⟨[], impl_within_w c_76⟩)], [], [], [(0, [0]), (1, [2])], impl_isKey_L A c_76 A.fuel⟩
theorem impl_isKey_ok (A : PM.Prims) (c_76 : impl_within_T) (k_ : Int) (k : PM.V → PM.R) : PM.pfun A cx [] (impl_isKey_E A c_76) Go.Proofs.Try.f71 [.int .i64 k_] k = impl_isKey_f A c_76 k_ (fun r0 => k (.bool r0)) := by kernel_rfl

theorem impl_isKey_fn : PM.FnIs Try.prog 71 Try.f71 := .of Try.func71 (by kernel_rfl) (by kernel_rfl)
theorem impl_isKey_g : PM.GOk Try.prog cx 71 ⟨[], impl_isKey_w (impl_isKey PM.std)⟩ := by
  refine ⟨impl_isKey_fn.enter, fun _ ds k r h => ?_, fun hm => absurd rfl hm⟩
  change impl_isKey_w (impl_isKey PM.std) ds k = some r at h
  unfold impl_isKey_w at h
  split at h
  · exact PM.pfun_ok (E := impl_isKey_E PM.std (impl_within PM.std)) (L := fun n => impl_isKey_L PM.std (impl_within PM.std) n) (N := PM.std.fuel) cx_ok (.cons impl_within_g .nil) mixed .nil impl_isKey_fn (by kernel_rfl) ⟨rfl, fun _ _ _ => rfl, fun n cur σ K r h => by cases h⟩
      ((impl_isKey_ok PM.std (impl_within PM.std) _ k).trans h)
  · cases h

abbrev impl_BucketOf_T := (Int) → ((Int) → PM.R) → PM.R
noncomputable def impl_BucketOf_w (c : impl_BucketOf_T) (ds : List PM.V) (k : PM.V → PM.R) : PM.R :=
  match ds with
  | [.int .i64 key] => c key (fun r0 => k (.int .i64 r0))
  | _ => none
noncomputable def impl_BucketOf_f (A : PM.Prims) (c_71 : impl_isKey_T) (key : Int) (k : (Int) → PM.R) : PM.R :=
  c_71 key (fun r1 =>
    bif (A.not r1) then
      k (-1)
    else
      bif (A.nz 4) then
        k (A.rem .i64 (A.add .i64 (A.mul .i64 7 key) 3) 4)
      else
        none)
noncomputable def impl_BucketOf (A : PM.Prims) : impl_BucketOf_T := impl_BucketOf_f A (impl_isKey A)
noncomputable def impl_BucketOf_L (A : PM.Prims) (c_71 : impl_isKey_T) (n : Nat) : PM.Lam := fun cur σ K =>
  match cur, σ, K with
  | _, _, _ => none
noncomputable def impl_BucketOf_E (A : PM.Prims) (c_71 : impl_isKey_T) : PM.Env := ⟨[(71, ⟨[], impl_isKey_w c_71⟩)], [], [], [(0, [0]), (1, [0, 5]), (2, [2]), (3, [2])], impl_BucketOf_L A c_71 A.fuel⟩
theorem impl_BucketOf_ok (A : PM.Prims) (c_71 : impl_isKey_T) (key : Int) (k : PM.V → PM.R) : PM.pfun A cx [] (impl_BucketOf_E A c_71) Go.Proofs.Try.f21 [.int .i64 key] k = impl_BucketOf_f A c_71 key (fun r0 => k (.int .i64 r0)) := by kernel_rfl

theorem impl_BucketOf_fn : PM.FnIs Try.prog 21 Try.f21 := .of Try.func21 (by kernel_rfl) (by kernel_rfl)
theorem impl_BucketOf_g : PM.GOk Try.prog cx 21 ⟨[], impl_BucketOf_w (impl_BucketOf PM.std)⟩ := by
  refine ⟨impl_BucketOf_fn.enter, fun _ ds k r h => ?_, fun hm => absurd rfl hm⟩
  change impl_BucketOf_w (impl_BucketOf PM.std) ds k = some r at h
  unfold impl_BucketOf_w at h
  split at h
  · exact PM.pfun_ok (E := impl_BucketOf_E PM.std (impl_isKey PM.std)) (L := fun n => impl_BucketOf_L PM.std (impl_isKey PM.std) n) (N := PM.std.fuel) cx_ok (.cons impl_isKey_g .nil) mixed .nil impl_BucketOf_fn (by kernel_rfl) ⟨rfl, fun _ _ _ => rfl, fun n cur σ K r h => by cases h⟩
      ((impl_BucketOf_ok PM.std (impl_isKey PM.std) _ k).trans h)
  · cases h

abbrev spec_SlotNew_T := ((List Int) → PM.R) → PM.R
noncomputable def spec_SlotNew_w (c : spec_SlotNew_T) (ds : List PM.V) (k : PM.V → PM.R) : PM.R :=
  match ds with
  | [] => c (fun r0 => k (.arr (.ints 3 .i64 r0)))
  | _ => none
noncomputable def spec_SlotNew_f (A : PM.Prims) (k : (List Int) → PM.R) : PM.R :=
  bif (A.mkOk 16) then
    bif (A.le 16 16) then
      bif (A.mkOk 16) then
        k (A.izero 16)
      else
        none
    else
      none
  else
    none
noncomputable def spec_SlotNew (A : PM.Prims) : spec_SlotNew_T := spec_SlotNew_f A
noncomputable def spec_SlotNew_L (A : PM.Prims) (n : Nat) : PM.Lam := fun cur σ K =>
  match cur, σ, K with
  | _, _, _ => none
noncomputable def spec_SlotNew_E (A : PM.Prims) : PM.Env := ⟨[], [], [], [(0, []), (1, [0])], spec_SlotNew_L A A.fuel⟩
theorem spec_SlotNew_ok (A : PM.Prims) (k : PM.V → PM.R) : PM.pfun A cx [] (spec_SlotNew_E A) Go.Proofs.Try.f22 [] k = spec_SlotNew_f A (fun r0 => k (.arr (.ints 3 .i64 r0))) := by kernel_rfl

theorem spec_SlotNew_fn : PM.FnIs Try.prog 22 Try.f22 := .of Try.func22 (by kernel_rfl) (by kernel_rfl)
theorem spec_SlotNew_g : PM.GOk Try.prog cx 22 ⟨[], spec_SlotNew_w (spec_SlotNew PM.std)⟩ := by
  refine ⟨spec_SlotNew_fn.enter, fun _ ds k r h => ?_, fun hm => absurd rfl hm⟩
  change spec_SlotNew_w (spec_SlotNew PM.std) ds k = some r at h
  unfold spec_SlotNew_w at h
  split at h
  · exact PM.pfun_ok (E := spec_SlotNew_E PM.std) (L := fun n => spec_SlotNew_L PM.std n) (N := PM.std.fuel) cx_ok .nil mixed .nil spec_SlotNew_fn (by kernel_rfl) ⟨rfl, fun _ _ _ => rfl, fun n cur σ K r h => by cases h⟩
      ((spec_SlotNew_ok PM.std k).trans h)
  · cases h

abbrev impl_SlotNew_T := ((List Int) → PM.R) → PM.R
noncomputable def impl_SlotNew_w (c : impl_SlotNew_T) (ds : List PM.V) (k : PM.V → PM.R) : PM.R :=
  match ds with
  | [] => c (fun r0 => k (.arr (.ints 3 .i64 r0)))
  | _ => none
noncomputable def impl_SlotNew_f (A : PM.Prims) (k : (List Int) → PM.R) : PM.R :=
  bif (A.mkOk 16) then
    bif (A.le 16 16) then
      bif (A.mkOk 16) then
        k (A.izero 16)
      else
        none
    else
      none
  else
    none
noncomputable def impl_SlotNew (A : PM.Prims) : impl_SlotNew_T := impl_SlotNew_f A
noncomputable def impl_SlotNew_L (A : PM.Prims) (n : Nat) : PM.Lam := fun cur σ K =>
  match cur, σ, K with
  | _, _, _ => none
noncomputable def impl_SlotNew_E (A : PM.Prims) : PM.Env := ⟨[], [], [], [(0, []), (1, [0])], impl_SlotNew_L A A.fuel⟩
theorem impl_SlotNew_ok (A : PM.Prims) (k : PM.V → PM.R) : PM.pfun A cx [] (impl_SlotNew_E A) Go.Proofs.Try.f23 [] k = impl_SlotNew_f A (fun r0 => k (.arr (.ints 3 .i64 r0))) := by kernel_rfl

theorem impl_SlotNew_fn : PM.FnIs Try.prog 23 Try.f23 := .of Try.func23 (by kernel_rfl) (by kernel_rfl)
theorem impl_SlotNew_g : PM.GOk Try.prog cx 23 ⟨[], impl_SlotNew_w (impl_SlotNew PM.std)⟩ := by
  refine ⟨impl_SlotNew_fn.enter, fun _ ds k r h => ?_, fun hm => absurd rfl hm⟩
  change impl_SlotNew_w (impl_SlotNew PM.std) ds k = some r at h
  unfold impl_SlotNew_w at h
  split at h
  · exact PM.pfun_ok (E := impl_SlotNew_E PM.std) (L := fun n => impl_SlotNew_L PM.std n) (N := PM.std.fuel) cx_ok .nil mixed .nil impl_SlotNew_fn (by kernel_rfl) ⟨rfl, fun _ _ _ => rfl, fun n cur σ K r h => by cases h⟩
      ((impl_SlotNew_ok PM.std k).trans h)
  · cases h

abbrev laws_eqIntS_T := (List Int) → (List Int) → ((Bool) → PM.R) → PM.R
noncomputable def laws_eqIntS_w (c : laws_eqIntS_T) (ds : List PM.V) (k : PM.V → PM.R) : PM.R :=
  match ds with
  | [.arr (.ints 3 .i64 a), .arr (.ints 3 .i64 b)] => c a b (fun r0 => k (.bool r0))
  | _ => none
noncomputable def laws_eqIntS_l0 (A : PM.Prims) : Nat → (List Int) → (List Int) → (Int) → ((Bool) → PM.R) → (Unit → PM.R) → PM.R
  | 0, _, _, _, _, _ => none
  | n + 1, a1, b2, i3, kret_0, kx0_0 =>
    bif (A.lt i3 (A.ilen a1)) then
      bif (A.inb i3 (A.ilen a1)) then
        bif (A.inb i3 (A.ilen b2)) then
          bif (A.not (A.eq (A.iget a1 i3) (A.iget b2 i3))) then
            kret_0 false
          else
            laws_eqIntS_l0 A n a1 b2 (A.add .i64 i3 1) kret_0 kx0_0
        else
          none
      else
        none
    else
      kx0_0 ()
noncomputable def laws_eqIntS_f (A : PM.Prims) (a : List Int) (b : List Int) (k : (Bool) → PM.R) : PM.R :=
  bif (A.not (A.eq (A.ilen a) (A.ilen b))) then
    k false
  else
    laws_eqIntS_l0 A A.fuel a b 0 (fun t445 =>
      k t445) (fun _ =>
      k true)
noncomputable def laws_eqIntS (A : PM.Prims) : laws_eqIntS_T := laws_eqIntS_f A
noncomputable def laws_eqIntS_L (A : PM.Prims) (n : Nat) : PM.Lam := fun cur σ K =>
  match cur, σ, K with
  | 0, ⟨[(0, .arr (.ints 3 .i64 a1)), (1, .arr (.ints 3 .i64 b2)), (5, .int .i64 i3)], []⟩, K => laws_eqIntS_l0 A n a1 b2 i3 (fun t44 => K .ret ⟨[(4, .bool t44)], []⟩) (fun _ => K (.exit 0) ⟨[], []⟩)
  | _, _, _ => none
noncomputable def laws_eqIntS_E (A : PM.Prims) : PM.Env := ⟨[], [], [(0, [0, 1, 5], [4])], [(0, [0, 1]), (1, [0, 1, 10]), (2, [4]), (3, [0, 1, 5]), (4, [0, 1, 5, 14]), (5, [0, 1, 5]), (6, [0, 1, 5, 25]), (7, [4]), (8, [4])], laws_eqIntS_L A A.fuel⟩
theorem laws_eqIntS_l0_ok (A : PM.Prims) (n : Nat) (a1 : List Int) (b2 : List Int) (i3 : Int) (K : Go.Exit → PM.S → PM.R) : laws_eqIntS_L A (n + 1) 0 ⟨[(0, .arr (.ints 3 .i64 a1)), (1, .arr (.ints 3 .i64 b2)), (5, .int .i64 i3)], []⟩ K = PM.roundF A cx (PM.runD A cx (laws_eqIntS_E A).inl (laws_eqIntS_E A).Γ 3) (laws_eqIntS_E A) (laws_eqIntS_L A n) 0 Go.Proofs.Try.f24 ⟨[(0, .arr (.ints 3 .i64 a1)), (1, .arr (.ints 3 .i64 b2)), (5, .int .i64 i3)], []⟩ K := by kernel_rfl
theorem laws_eqIntS_ok (A : PM.Prims) (a : List Int) (b : List Int) (k : PM.V → PM.R) : PM.pfun A cx [] (laws_eqIntS_E A) Go.Proofs.Try.f24 [.arr (.ints 3 .i64 a), .arr (.ints 3 .i64 b)] k = laws_eqIntS_f A a b (fun r0 => k (.bool r0)) := by kernel_rfl

theorem laws_eqIntS_fn : PM.FnIs Try.prog 24 Try.f24 := .of Try.func24 (by kernel_rfl) (by kernel_rfl)
theorem laws_eqIntS_g : PM.GOk Try.prog cx 24 ⟨[], laws_eqIntS_w (laws_eqIntS PM.std)⟩ := by
  refine ⟨laws_eqIntS_fn.enter, fun _ ds k r h => ?_, fun hm => absurd rfl hm⟩
  change laws_eqIntS_w (laws_eqIntS PM.std) ds k = some r at h
  unfold laws_eqIntS_w at h
  split at h
  · exact PM.pfun_ok (E := laws_eqIntS_E PM.std) (L := fun n => laws_eqIntS_L PM.std n) (N := PM.std.fuel) cx_ok .nil mixed .nil laws_eqIntS_fn (by kernel_rfl) ⟨rfl, fun cur σ K => by
      dsimp only [laws_eqIntS_L]
      split <;> rfl, fun n cur σ K r h => by
      dsimp only [laws_eqIntS_L] at h
      split at h
      · exact (laws_eqIntS_l0_ok PM.std n _ _ _ K).symm.trans h
      · cases h⟩
      ((laws_eqIntS_ok PM.std _ _ k).trans h)
  · cases h

abbrev laws_markIntS_T := (List Int) → (Int) → ((Int) → (List Int) → PM.R) → PM.R
noncomputable def laws_markIntS_w (c : laws_markIntS_T) (ds : List PM.V) (k : PM.V → PM.R) : PM.R :=
  match ds with
  | [.arr (.ints 3 .i64 a), .int .i64 k_] => c a k_ (fun r0 o0 => k (.tup [.int .i64 r0, .arr (.ints 3 .i64 o0)]))
  | _ => none
noncomputable def laws_markIntS_l0 (A : PM.Prims) : Nat → (Int) → (Int) → (List Int) → ((Int) → (List Int) → PM.R) → PM.R
  | 0, _, _, _, _ => none
  | n + 1, k1, i2, o03, kx0_0 =>
    bif (A.lt i2 (A.ilen o03)) then
      bif (A.inb i2 (A.ilen o03)) then
        laws_markIntS_l0 A n (A.add .i64 k1 1) (A.add .i64 i2 1) (A.iset o03 i2 k1) kx0_0
      else
        none
    else
      kx0_0 k1 o03
noncomputable def laws_markIntS_f (A : PM.Prims) (a : List Int) (k_ : Int) (k : (Int) → (List Int) → PM.R) : PM.R :=
  laws_markIntS_l0 A A.fuel k_ 0 a (fun k46 o057 =>
    k k46 o057)
noncomputable def laws_markIntS (A : PM.Prims) : laws_markIntS_T := laws_markIntS_f A
noncomputable def laws_markIntS_L (A : PM.Prims) (n : Nat) : PM.Lam := fun cur σ K =>
  match cur, σ, K with
  | 0, ⟨[(0, .sref 0), (1, .int .i64 k1), (5, .int .i64 i2)], [(0, .arr false (.ints 3 .i64 o03))]⟩, K => laws_markIntS_l0 A n k1 i2 o03 (fun k4 o05 => K (.exit 0) ⟨[(0, .sref 0), (1, .int .i64 k4)], [(0, .arr false (.ints 3 .i64 o05))]⟩)
  | _, _, _ => none
noncomputable def laws_markIntS_E (A : PM.Prims) : PM.Env := ⟨[], [], [(0, [0, 1, 5], [0, 1, 4])], [(0, [0, 1]), (1, [0, 1, 5]), (2, [0, 1, 5, 9]), (3, [0, 1, 5]), (4, [0, 1, 5]), (5, [0, 1, 5]), (6, [0, 4])], laws_markIntS_L A A.fuel⟩
theorem laws_markIntS_l0_ok (A : PM.Prims) (n : Nat) (k1 : Int) (i2 : Int) (o03 : List Int) (K : Go.Exit → PM.S → PM.R) : laws_markIntS_L A (n + 1) 0 ⟨[(0, .sref 0), (1, .int .i64 k1), (5, .int .i64 i2)], [(0, .arr false (.ints 3 .i64 o03))]⟩ K = PM.roundF A cx (PM.runD A cx (laws_markIntS_E A).inl (laws_markIntS_E A).Γ 3) (laws_markIntS_E A) (laws_markIntS_L A n) 0 Go.Proofs.Try.f25 ⟨[(0, .sref 0), (1, .int .i64 k1), (5, .int .i64 i2)], [(0, .arr false (.ints 3 .i64 o03))]⟩ K := by kernel_rfl
theorem laws_markIntS_ok (A : PM.Prims) (a : List Int) (k_ : Int) (k : PM.V → PM.R) : PM.pfun A cx [true, false] (laws_markIntS_E A) Go.Proofs.Try.f25 [.arr (.ints 3 .i64 a), .int .i64 k_] k = laws_markIntS_f A a k_ (fun r0 o0 => k (.tup [.int .i64 r0, .arr (.ints 3 .i64 o0)])) := by kernel_rfl

theorem laws_markIntS_fn : PM.FnIs Try.prog 25 Try.f25 := .of Try.func25 (by kernel_rfl) (by kernel_rfl)
theorem laws_markIntS_g : PM.GOk Try.prog cx 25 ⟨[true, false], laws_markIntS_w (laws_markIntS PM.std)⟩ := by
  refine ⟨laws_markIntS_fn.enter, fun hm => (by cases hm), fun _ ds k r h => ?_⟩
  change laws_markIntS_w (laws_markIntS PM.std) ds k = some r at h
  unfold laws_markIntS_w at h
  split at h
  · exact PM.pfun_okM (List.cons_ne_nil _ _) (E := laws_markIntS_E PM.std) (L := fun n => laws_markIntS_L PM.std n) (N := PM.std.fuel) cx_ok .nil mixed .nil laws_markIntS_fn (by kernel_rfl) ⟨rfl, fun cur σ K => by
      dsimp only [laws_markIntS_L]
      split <;> rfl, fun n cur σ K r h => by
      dsimp only [laws_markIntS_L] at h
      split at h
      · exact (laws_markIntS_l0_ok PM.std n _ _ _ K).symm.trans h
      · cases h⟩
      ((laws_markIntS_ok PM.std _ _ k).trans h)
  · cases h

abbrev laws_heldIntS_T := (List Int) → (Int) → ((Int) → PM.R) → PM.R
noncomputable def laws_heldIntS_w (c : laws_heldIntS_T) (ds : List PM.V) (k : PM.V → PM.R) : PM.R :=
  match ds with
  | [.arr (.ints 3 .i64 a), .int .i64 k_] => c a k_ (fun r0 => k (.int .i64 r0))
  | _ => none
noncomputable def laws_heldIntS_l0 (A : PM.Prims) : Nat → (List Int) → (Int) → (Int) → ((Int) → PM.R) → ((Int) → PM.R) → PM.R
  | 0, _, _, _, _, _ => none
  | n + 1, a1, k2, i3, kret_0, kx0_0 =>
    bif (A.lt i3 (A.ilen a1)) then
      bif (A.inb i3 (A.ilen a1)) then
        bif (A.not (A.eq (A.iget a1 i3) k2)) then
          kret_0 (-1)
        else
          laws_heldIntS_l0 A n a1 (A.add .i64 k2 1) (A.add .i64 i3 1) kret_0 kx0_0
      else
        none
    else
      kx0_0 k2
noncomputable def laws_heldIntS_f (A : PM.Prims) (a : List Int) (k_ : Int) (k : (Int) → PM.R) : PM.R :=
  laws_heldIntS_l0 A A.fuel a k_ 0 (fun t446 =>
    k t446) (fun k57 =>
    k k57)
noncomputable def laws_heldIntS (A : PM.Prims) : laws_heldIntS_T := laws_heldIntS_f A
noncomputable def laws_heldIntS_L (A : PM.Prims) (n : Nat) : PM.Lam := fun cur σ K =>
  match cur, σ, K with
  | 0, ⟨[(0, .arr (.ints 3 .i64 a1)), (1, .int .i64 k2), (5, .int .i64 i3)], []⟩, K => laws_heldIntS_l0 A n a1 k2 i3 (fun t44 => K .ret ⟨[(4, .int .i64 t44)], []⟩) (fun k5 => K (.exit 0) ⟨[(1, .int .i64 k5)], []⟩)
  | _, _, _ => none
noncomputable def laws_heldIntS_E (A : PM.Prims) : PM.Env := ⟨[], [], [(0, [0, 1, 5], [1, 4])], [(0, [0, 1]), (1, [0, 1, 5]), (2, [0, 1, 5, 9]), (3, [0, 1, 5]), (4, [0, 1, 5, 17]), (5, [4]), (6, [0, 1, 5]), (7, [4])], laws_heldIntS_L A A.fuel⟩
theorem laws_heldIntS_l0_ok (A : PM.Prims) (n : Nat) (a1 : List Int) (k2 : Int) (i3 : Int) (K : Go.Exit → PM.S → PM.R) : laws_heldIntS_L A (n + 1) 0 ⟨[(0, .arr (.ints 3 .i64 a1)), (1, .int .i64 k2), (5, .int .i64 i3)], []⟩ K = PM.roundF A cx (PM.runD A cx (laws_heldIntS_E A).inl (laws_heldIntS_E A).Γ 3) (laws_heldIntS_E A) (laws_heldIntS_L A n) 0 Go.Proofs.Try.f26 ⟨[(0, .arr (.ints 3 .i64 a1)), (1, .int .i64 k2), (5, .int .i64 i3)], []⟩ K := by kernel_rfl
theorem laws_heldIntS_ok (A : PM.Prims) (a : List Int) (k_ : Int) (k : PM.V → PM.R) : PM.pfun A cx [] (laws_heldIntS_E A) Go.Proofs.Try.f26 [.arr (.ints 3 .i64 a), .int .i64 k_] k = laws_heldIntS_f A a k_ (fun r0 => k (.int .i64 r0)) := by kernel_rfl

theorem laws_heldIntS_fn : PM.FnIs Try.prog 26 Try.f26 := .of Try.func26 (by kernel_rfl) (by kernel_rfl)
theorem laws_heldIntS_g : PM.GOk Try.prog cx 26 ⟨[], laws_heldIntS_w (laws_heldIntS PM.std)⟩ := by
  refine ⟨laws_heldIntS_fn.enter, fun _ ds k r h => ?_, fun hm => absurd rfl hm⟩
  change laws_heldIntS_w (laws_heldIntS PM.std) ds k = some r at h
  unfold laws_heldIntS_w at h
  split at h
  · exact PM.pfun_ok (E := laws_heldIntS_E PM.std) (L := fun n => laws_heldIntS_L PM.std n) (N := PM.std.fuel) cx_ok .nil mixed .nil laws_heldIntS_fn (by kernel_rfl) ⟨rfl, fun cur σ K => by
      dsimp only [laws_heldIntS_L]
      split <;> rfl, fun n cur σ K r h => by
      dsimp only [laws_heldIntS_L] at h
      split at h
      · exact (laws_heldIntS_l0_ok PM.std n _ _ _ K).symm.trans h
      · cases h⟩
      ((laws_heldIntS_ok PM.std _ _ k).trans h)
  · cases h

abbrev laws_FnExactSlotNew_T := ((Bool) → PM.R) → PM.R
noncomputable def laws_FnExactSlotNew_w (c : laws_FnExactSlotNew_T) (ds : List PM.V) (k : PM.V → PM.R) : PM.R :=
  match ds with
  | [] => c (fun r0 => k (.bool r0))
  | _ => none
noncomputable def laws_FnExactSlotNew_f (A : PM.Prims) (c_22 : spec_SlotNew_T) (c_23 : impl_SlotNew_T) (c_24 : laws_eqIntS_T) (c_25 : laws_markIntS_T) (c_26 : laws_heldIntS_T) (k : (Bool) → PM.R) : PM.R :=
  c_22 (fun r1 =>
    c_23 (fun r2 =>
      c_24 r2 r1 (fun r3 =>
        bif (A.not r3) then
          k false
        else
          c_25 r2 1 (fun r4 r5 =>
            c_26 r5 1 (fun r6 =>
              bif (A.lt r6 0) then
                k false
              else
                bif (A.not (A.eq r6 r4)) then
                  k false
                else
                  c_23 (fun r7 =>
                    c_24 r7 r1 (fun r8 =>
                      bif (A.not r8) then
                        k false
                      else
                        c_26 r5 1 (fun r9 =>
                          bif (A.lt r9 0) then
                            k false
                          else
                            bif (A.not (A.eq r9 r4)) then
                              k false
                            else
                              k true))))))))
noncomputable def laws_FnExactSlotNew (A : PM.Prims) : laws_FnExactSlotNew_T := laws_FnExactSlotNew_f A (spec_SlotNew A) (impl_SlotNew A) (laws_eqIntS A) (laws_markIntS A) (laws_heldIntS A)
noncomputable def laws_FnExactSlotNew_L (A : PM.Prims) (c_22 : spec_SlotNew_T) (c_23 : impl_SlotNew_T) (c_24 : laws_eqIntS_T) (c_25 : laws_markIntS_T) (c_26 : laws_heldIntS_T) (n : Nat) : PM.Lam := fun cur σ K =>
  match cur, σ, K with
  | _, _, _ => none
noncomputable def laws_FnExactSlotNew_E (A : PM.Prims) (c_22 : spec_SlotNew_T) (c_23 : impl_SlotNew_T) (c_24 : laws_eqIntS_T) (c_25 : laws_markIntS_T) (c_26 : laws_heldIntS_T) : PM.Env := ⟨[(22, ⟨[], spec_SlotNew_w c_22⟩), (23, ⟨[], impl_SlotNew_w c_23⟩), (24, ⟨[], laws_eqIntS_w c_24⟩), (25, ⟨[true, false], laws_markIntS_w c_25⟩), (26, ⟨[], laws_heldIntS_w c_26⟩)], [], [], [(0, []), (1, [1]), (2, [1, 2]), (3, [1, 2, 11]), (4, [0]), (5, [1, 2, 3]), (6, [1, 2, 3]), (7, [1, 2, 3, 4]), (8, [1, 2, 3, 4]), (9, [1, 2, 3, 4, 19]), (10, [0]), (11, [1, 2, 3, 22]), (12, [0]), (13, [1, 2, 3, 5]), (14, [2, 3, 27]), (15, [0]), (16, [2, 3, 4]), (17, [3, 4]), (18, [3, 4, 32]), (19, [0]), (20, [35]), (21, [0]), (22, [0])], laws_FnExactSlotNew_L A c_22 c_23 c_24 c_25 c_26 A.fuel⟩
theorem laws_FnExactSlotNew_ok (A : PM.Prims) (c_22 : spec_SlotNew_T) (c_23 : impl_SlotNew_T) (c_24 : laws_eqIntS_T) (c_25 : laws_markIntS_T) (c_26 : laws_heldIntS_T) (k : PM.V → PM.R) : PM.pfun A cx [] (laws_FnExactSlotNew_E A c_22 c_23 c_24 c_25 c_26) Go.Proofs.Try.f4 [] k = laws_FnExactSlotNew_f A c_22 c_23 c_24 c_25 c_26 (fun r0 => k (.bool r0)) := by kernel_rfl

theorem laws_FnExactSlotNew_fn : PM.FnIs Try.prog 4 Try.f4 := .of Try.func4 (by kernel_rfl) (by kernel_rfl)
theorem laws_FnExactSlotNew_g : PM.GOk Try.prog cx 4 ⟨[], laws_FnExactSlotNew_w (laws_FnExactSlotNew PM.std)⟩ := by
  refine ⟨laws_FnExactSlotNew_fn.enter, fun _ ds k r h => ?_, fun hm => absurd rfl hm⟩
  change laws_FnExactSlotNew_w (laws_FnExactSlotNew PM.std) ds k = some r at h
  unfold laws_FnExactSlotNew_w at h
  split at h
  · exact PM.pfun_ok (E := laws_FnExactSlotNew_E PM.std (spec_SlotNew PM.std) (impl_SlotNew PM.std) (laws_eqIntS PM.std) (laws_markIntS PM.std) (laws_heldIntS PM.std)) (L := fun n => laws_FnExactSlotNew_L PM.std (spec_SlotNew PM.std) (impl_SlotNew PM.std) (laws_eqIntS PM.std) (laws_markIntS PM.std) (laws_heldIntS PM.std) n) (N := PM.std.fuel) cx_ok (.cons spec_SlotNew_g (.cons impl_SlotNew_g (.cons laws_eqIntS_g (.cons laws_markIntS_g (.cons laws_heldIntS_g .nil))))) mixed .nil laws_FnExactSlotNew_fn (by kernel_rfl) ⟨rfl, fun _ _ _ => rfl, fun n cur σ K r h => by cases h⟩
      ((laws_FnExactSlotNew_ok PM.std (spec_SlotNew PM.std) (impl_SlotNew PM.std) (laws_eqIntS PM.std) (laws_markIntS PM.std) (laws_heldIntS PM.std) k).trans h)
  · cases h

abbrev laws_toUndo_T := (Int) → (Int) → (Int) → ((Int) → (Int) → (Int) → PM.R) → PM.R
noncomputable def laws_toUndo_w (c : laws_toUndo_T) (ds : List PM.V) (k : PM.V → PM.R) : PM.R :=
  match ds with
  | [.agg [.int .i64 a_Kind, .int .i64 a_Key, .int .i64 a_Val]] => c a_Kind a_Key a_Val (fun r0_Kind r0_Key r0_Val => k (.agg [.int .i64 r0_Kind, .int .i64 r0_Key, .int .i64 r0_Val]))
  | _ => none
noncomputable def laws_toUndo_f (A : PM.Prims) (a_Kind : Int) (a_Key : Int) (a_Val : Int) (k : (Int) → (Int) → (Int) → PM.R) : PM.R :=
  k a_Kind a_Key a_Val
noncomputable def laws_toUndo (A : PM.Prims) : laws_toUndo_T := laws_toUndo_f A
noncomputable def laws_toUndo_L (A : PM.Prims) (n : Nat) : PM.Lam := fun cur σ K =>
  match cur, σ, K with
  | _, _, _ => none
noncomputable def laws_toUndo_E (A : PM.Prims) : PM.Env := ⟨[], [], [], [(0, [1, 2]), (1, [1, 2, 3]), (2, [1, 2, 3]), (3, [1, 2, 3]), (4, [2, 3]), (5, [2])], laws_toUndo_L A A.fuel⟩
theorem laws_toUndo_ok (A : PM.Prims) (a_Kind : Int) (a_Key : Int) (a_Val : Int) (k : PM.V → PM.R) : PM.pfun A cx [] (laws_toUndo_E A) Go.Proofs.Try.f28 [.agg [.int .i64 a_Kind, .int .i64 a_Key, .int .i64 a_Val]] k = laws_toUndo_f A a_Kind a_Key a_Val (fun r0_Kind r0_Key r0_Val => k (.agg [.int .i64 r0_Kind, .int .i64 r0_Key, .int .i64 r0_Val])) := by kernel_rfl

theorem laws_toUndo_fn : PM.FnIs Try.prog 28 Try.f28 := .of Try.func28 (by kernel_rfl) (by kernel_rfl)
theorem laws_toUndo_g : PM.GOk Try.prog cx 28 ⟨[], laws_toUndo_w (laws_toUndo PM.std)⟩ := by
  refine ⟨laws_toUndo_fn.enter, fun _ ds k r h => ?_, fun hm => absurd rfl hm⟩
  change laws_toUndo_w (laws_toUndo PM.std) ds k = some r at h
  unfold laws_toUndo_w at h
  split at h
  · exact PM.pfun_ok (E := laws_toUndo_E PM.std) (L := fun n => laws_toUndo_L PM.std n) (N := PM.std.fuel) cx_ok .nil mixed .nil laws_toUndo_fn (by kernel_rfl) ⟨rfl, fun _ _ _ => rfl, fun n cur σ K r h => by cases h⟩
      ((laws_toUndo_ok PM.std _ _ _ k).trans h)
  · cases h

abbrev spec_l3Val_T := (Int) → ((Bool) → PM.R) → PM.R
noncomputable def spec_l3Val_w (c : spec_l3Val_T) (ds : List PM.V) (k : PM.V → PM.R) : PM.R :=
  match ds with
  | [.int .i64 v] => c v (fun r0 => k (.bool r0))
  | _ => none
noncomputable def spec_l3Val_f (A : PM.Prims) (c_74 : spec_l1In_T) (v : Int) (k : (Bool) → PM.R) : PM.R :=
  c_74 v 0 65535 (fun r1 =>
    k r1)
noncomputable def spec_l3Val (A : PM.Prims) : spec_l3Val_T := spec_l3Val_f A (spec_l1In A)
noncomputable def spec_l3Val_L (A : PM.Prims) (c_74 : spec_l1In_T) (n : Nat) : PM.Lam := fun cur σ K =>
  match cur, σ, K with
  | _, _, _ => none
noncomputable def spec_l3Val_E (A : PM.Prims) (c_74 : spec_l1In_T) : PM.Env := ⟨[(74, ⟨[], spec_l1In_w c_74⟩)], [], [], [(0, [0]), (1, [2])], spec_l3Val_L A c_74 A.fuel⟩
theorem spec_l3Val_ok (A : PM.Prims) (c_74 : spec_l1In_T) (v : Int) (k : PM.V → PM.R) : PM.pfun A cx [] (spec_l3Val_E A c_74) Go.Proofs.Try.f72 [.int .i64 v] k = spec_l3Val_f A c_74 v (fun r0 => k (.bool r0)) := by kernel_rfl

theorem spec_l3Val_fn : PM.FnIs Try.prog 72 Try.f72 := .of Try.func72 (by kernel_rfl) (by kernel_rfl)
theorem spec_l3Val_g : PM.GOk Try.prog cx 72 ⟨[], spec_l3Val_w (spec_l3Val PM.std)⟩ := by
  refine ⟨spec_l3Val_fn.enter, fun _ ds k r h => ?_, fun hm => absurd rfl hm⟩
  change spec_l3Val_w (spec_l3Val PM.std) ds k = some r at h
  unfold spec_l3Val_w at h
  split at h
  · exact PM.pfun_ok (E := spec_l3Val_E PM.std (spec_l1In PM.std)) (L := fun n => spec_l3Val_L PM.std (spec_l1In PM.std) n) (N := PM.std.fuel) cx_ok (.cons spec_l1In_g .nil) mixed .nil spec_l3Val_fn (by kernel_rfl) ⟨rfl, fun _ _ _ => rfl, fun n cur σ K r h => by cases h⟩
      ((spec_l3Val_ok PM.std (spec_l1In PM.std) _ k).trans h)
  · cases h

abbrev spec_UndoOk_T := (Int) → (Int) → (Int) → ((Bool) → PM.R) → PM.R
noncomputable def spec_UndoOk_w (c : spec_UndoOk_T) (ds : List PM.V) (k : PM.V → PM.R) : PM.R :=
  match ds with
  | [.agg [.int .i64 u_Kind, .int .i64 u_Key, .int .i64 u_Val]] => c u_Kind u_Key u_Val (fun r0 => k (.bool r0))
  | _ => none
noncomputable def spec_UndoOk_f (A : PM.Prims) (c_70 : spec_l15Key_T) (c_72 : spec_l3Val_T) (u_Kind : Int) (u_Key : Int) (u_Val : Int) (k : (Bool) → PM.R) : PM.R :=
  bif (A.eq u_Kind 0) then
    bif (A.eq u_Key 0) then
      k (A.eq u_Val 0)
    else
      k false
  else
    bif (A.eq u_Kind 1) then
      c_70 u_Key (fun r1 =>
        bif r1 then
          c_72 u_Val (fun r2 =>
            k r2)
        else
          k false)
    else
      bif (A.eq u_Kind 2) then
        c_70 u_Key (fun r3 =>
          bif r3 then
            k (A.eq u_Val 0)
          else
            k false)
      else
        bif (A.eq u_Kind 3) then
          bif (A.eq u_Key 0) then
            c_72 u_Val (fun r4 =>
              k r4)
          else
            k false
        else
          k false
noncomputable def spec_UndoOk (A : PM.Prims) : spec_UndoOk_T := spec_UndoOk_f A (spec_l15Key A) (spec_l3Val A)
noncomputable def spec_UndoOk_L (A : PM.Prims) (c_70 : spec_l15Key_T) (c_72 : spec_l3Val_T) (n : Nat) : PM.Lam := fun cur σ K =>
  match cur, σ, K with
  | _, _, _ => none
noncomputable def spec_UndoOk_E (A : PM.Prims) (c_70 : spec_l15Key_T) (c_72 : spec_l3Val_T) : PM.Env := ⟨[(70, ⟨[], spec_l15Key_w c_70⟩), (72, ⟨[], spec_l3Val_w c_72⟩)], [], [], [(0, [1]), (1, [1, 4]), (2, [1, 4, 5]), (3, [2]), (4, [1, 4, 15]), (5, [2]), (6, [1, 4, 25]), (7, [2]), (8, [1, 35]), (9, [2]), (10, [2])], spec_UndoOk_L A c_70 c_72 A.fuel⟩
theorem spec_UndoOk_ok (A : PM.Prims) (c_70 : spec_l15Key_T) (c_72 : spec_l3Val_T) (u_Kind : Int) (u_Key : Int) (u_Val : Int) (k : PM.V → PM.R) : PM.pfun A cx [] (spec_UndoOk_E A c_70 c_72) Go.Proofs.Try.f27 [.agg [.int .i64 u_Kind, .int .i64 u_Key, .int .i64 u_Val]] k = spec_UndoOk_f A c_70 c_72 u_Kind u_Key u_Val (fun r0 => k (.bool r0)) := by kernel_rfl

theorem spec_UndoOk_fn : PM.FnIs Try.prog 27 Try.f27 := .of Try.func27 (by kernel_rfl) (by kernel_rfl)
theorem spec_UndoOk_g : PM.GOk Try.prog cx 27 ⟨[], spec_UndoOk_w (spec_UndoOk PM.std)⟩ := by
  refine ⟨spec_UndoOk_fn.enter, fun _ ds k r h => ?_, fun hm => absurd rfl hm⟩
  change spec_UndoOk_w (spec_UndoOk PM.std) ds k = some r at h
  unfold spec_UndoOk_w at h
  split at h
  · exact PM.pfun_ok (E := spec_UndoOk_E PM.std (spec_l15Key PM.std) (spec_l3Val PM.std)) (L := fun n => spec_UndoOk_L PM.std (spec_l15Key PM.std) (spec_l3Val PM.std) n) (N := PM.std.fuel) cx_ok (.cons spec_l15Key_g (.cons spec_l3Val_g .nil)) mixed .nil spec_UndoOk_fn (by kernel_rfl) ⟨rfl, fun _ _ _ => rfl, fun n cur σ K r h => by cases h⟩
      ((spec_UndoOk_ok PM.std (spec_l15Key PM.std) (spec_l3Val PM.std) _ _ _ k).trans h)
  · cases h

abbrev impl_isValue_T := (Int) → ((Bool) → PM.R) → PM.R
noncomputable def impl_isValue_w (c : impl_isValue_T) (ds : List PM.V) (k : PM.V → PM.R) : PM.R :=
  match ds with
  | [.int .i64 v] => c v (fun r0 => k (.bool r0))
  | _ => none
noncomputable def impl_isValue_f (A : PM.Prims) (c_76 : impl_within_T) (v : Int) (k : (Bool) → PM.R) : PM.R :=
  c_76 v 0 65535 (fun r1 =>
    k r1)
noncomputable def impl_isValue (A : PM.Prims) : impl_isValue_T := impl_isValue_f A (impl_within A)
noncomputable def impl_isValue_L (A : PM.Prims) (c_76 : impl_within_T) (n : Nat) : PM.Lam := fun cur σ K =>
  match cur, σ, K with
  | _, _, _ => none
noncomputable def impl_isValue_E (A : PM.Prims) (c_76 : impl_within_T) : PM.Env := ⟨[(76, ⟨[], impl_within_w c_76⟩)], [], [], [(0, [0]), (1, [2])], impl_isValue_L A c_76 A.fuel⟩
theorem impl_isValue_ok (A : PM.Prims) (c_76 : impl_within_T) (v : Int) (k : PM.V → PM.R) : PM.pfun A cx [] (impl_isValue_E A c_76) Go.Proofs.Try.f73 [.int .i64 v] k = impl_isValue_f A c_76 v (fun r0 => k (.bool r0)) := by kernel_rfl

theorem impl_isValue_fn : PM.FnIs Try.prog 73 Try.f73 := .of Try.func73 (by kernel_rfl) (by kernel_rfl)
theorem impl_isValue_g : PM.GOk Try.prog cx 73 ⟨[], impl_isValue_w (impl_isValue PM.std)⟩ := by
  refine ⟨impl_isValue_fn.enter, fun _ ds k r h => ?_, fun hm => absurd rfl hm⟩
  change impl_isValue_w (impl_isValue PM.std) ds k = some r at h
  unfold impl_isValue_w at h
  split at h
  · exact PM.pfun_ok (E := impl_isValue_E PM.std (impl_within PM.std)) (L := fun n => impl_isValue_L PM.std (impl_within PM.std) n) (N := PM.std.fuel) cx_ok (.cons impl_within_g .nil) mixed .nil impl_isValue_fn (by kernel_rfl) ⟨rfl, fun _ _ _ => rfl, fun n cur σ K r h => by cases h⟩
      ((impl_isValue_ok PM.std (impl_within PM.std) _ k).trans h)
  · cases h

abbrev impl_UndoOk_T := (Int) → (Int) → (Int) → ((Bool) → PM.R) → PM.R
noncomputable def impl_UndoOk_w (c : impl_UndoOk_T) (ds : List PM.V) (k : PM.V → PM.R) : PM.R :=
  match ds with
  | [.agg [.int .i64 u_Kind, .int .i64 u_Key, .int .i64 u_Val]] => c u_Kind u_Key u_Val (fun r0 => k (.bool r0))
  | _ => none
noncomputable def impl_UndoOk_f (A : PM.Prims) (c_71 : impl_isKey_T) (c_73 : impl_isValue_T) (u_Kind : Int) (u_Key : Int) (u_Val : Int) (k : (Bool) → PM.R) : PM.R :=
  bif (A.eq u_Kind 0) then
    bif (A.eq u_Key 0) then
      k (A.eq u_Val 0)
    else
      k false
  else
    bif (A.eq u_Kind 1) then
      c_71 u_Key (fun r1 =>
        bif r1 then
          c_73 u_Val (fun r2 =>
            k r2)
        else
          k false)
    else
      bif (A.eq u_Kind 2) then
        c_71 u_Key (fun r3 =>
          bif r3 then
            k (A.eq u_Val 0)
          else
            k false)
      else
        bif (A.eq u_Kind 3) then
          bif (A.eq u_Key 0) then
            c_73 u_Val (fun r4 =>
              k r4)
          else
            k false
        else
          k false
noncomputable def impl_UndoOk (A : PM.Prims) : impl_UndoOk_T := impl_UndoOk_f A (impl_isKey A) (impl_isValue A)
noncomputable def impl_UndoOk_L (A : PM.Prims) (c_71 : impl_isKey_T) (c_73 : impl_isValue_T) (n : Nat) : PM.Lam := fun cur σ K =>
  match cur, σ, K with
  | _, _, _ => none
noncomputable def impl_UndoOk_E (A : PM.Prims) (c_71 : impl_isKey_T) (c_73 : impl_isValue_T) : PM.Env := ⟨[(71, ⟨[], impl_isKey_w c_71⟩), (73, ⟨[], impl_isValue_w c_73⟩)], [], [], [(0, [1]), (1, [1, 4]), (2, [1, 4, 5]), (3, [2]), (4, [1, 4, 15]), (5, [2]), (6, [1, 4, 25]), (7, [2]), (8, [1, 35]), (9, [2]), (10, [2])], impl_UndoOk_L A c_71 c_73 A.fuel⟩
theorem impl_UndoOk_ok (A : PM.Prims) (c_71 : impl_isKey_T) (c_73 : impl_isValue_T) (u_Kind : Int) (u_Key : Int) (u_Val : Int) (k : PM.V → PM.R) : PM.pfun A cx [] (impl_UndoOk_E A c_71 c_73) Go.Proofs.Try.f29 [.agg [.int .i64 u_Kind, .int .i64 u_Key, .int .i64 u_Val]] k = impl_UndoOk_f A c_71 c_73 u_Kind u_Key u_Val (fun r0 => k (.bool r0)) := by kernel_rfl

theorem impl_UndoOk_fn : PM.FnIs Try.prog 29 Try.f29 := .of Try.func29 (by kernel_rfl) (by kernel_rfl)
theorem impl_UndoOk_g : PM.GOk Try.prog cx 29 ⟨[], impl_UndoOk_w (impl_UndoOk PM.std)⟩ := by
  refine ⟨impl_UndoOk_fn.enter, fun _ ds k r h => ?_, fun hm => absurd rfl hm⟩
  change impl_UndoOk_w (impl_UndoOk PM.std) ds k = some r at h
  unfold impl_UndoOk_w at h
  split at h
  · exact PM.pfun_ok (E := impl_UndoOk_E PM.std (impl_isKey PM.std) (impl_isValue PM.std)) (L := fun n => impl_UndoOk_L PM.std (impl_isKey PM.std) (impl_isValue PM.std) n) (N := PM.std.fuel) cx_ok (.cons impl_isKey_g (.cons impl_isValue_g .nil)) mixed .nil impl_UndoOk_fn (by kernel_rfl) ⟨rfl, fun _ _ _ => rfl, fun n cur σ K r h => by cases h⟩
      ((impl_UndoOk_ok PM.std (impl_isKey PM.std) (impl_isValue PM.std) _ _ _ k).trans h)
  · cases h

abbrev laws_FnExactUndoOk_T := (Int) → (Int) → (Int) → ((Bool) → PM.R) → PM.R
noncomputable def laws_FnExactUndoOk_w (c : laws_FnExactUndoOk_T) (ds : List PM.V) (k : PM.V → PM.R) : PM.R :=
  match ds with
  | [.agg [.int .i64 aU_Kind, .int .i64 aU_Key, .int .i64 aU_Val]] => c aU_Kind aU_Key aU_Val (fun r0 => k (.bool r0))
  | _ => none
noncomputable def laws_FnExactUndoOk_f (A : PM.Prims) (c_28 : laws_toUndo_T) (c_27 : spec_UndoOk_T) (c_29 : impl_UndoOk_T) (aU_Kind : Int) (aU_Key : Int) (aU_Val : Int) (k : (Bool) → PM.R) : PM.R :=
  c_28 aU_Kind aU_Key aU_Val (fun r1 r2 r3 =>
    c_27 r1 r2 r3 (fun r4 =>
      c_28 aU_Kind aU_Key aU_Val (fun r5 r6 r7 =>
        c_29 r5 r6 r7 (fun r8 =>
          bif (A.not (A.beq r8 r4)) then
            k false
          else
            k true))))
noncomputable def laws_FnExactUndoOk (A : PM.Prims) : laws_FnExactUndoOk_T := laws_FnExactUndoOk_f A (laws_toUndo A) (spec_UndoOk A) (impl_UndoOk A)
noncomputable def laws_FnExactUndoOk_L (A : PM.Prims) (c_28 : laws_toUndo_T) (c_27 : spec_UndoOk_T) (c_29 : impl_UndoOk_T) (n : Nat) : PM.Lam := fun cur σ K =>
  match cur, σ, K with
  | _, _, _ => none
noncomputable def laws_FnExactUndoOk_E (A : PM.Prims) (c_28 : laws_toUndo_T) (c_27 : spec_UndoOk_T) (c_29 : impl_UndoOk_T) : PM.Env := ⟨[(28, ⟨[], laws_toUndo_w c_28⟩), (27, ⟨[], spec_UndoOk_w c_27⟩), (29, ⟨[], impl_UndoOk_w c_29⟩)], [], [], [(0, [1]), (1, [1, 3]), (2, [3, 4]), (3, [13]), (4, [2]), (5, [2])], laws_FnExactUndoOk_L A c_28 c_27 c_29 A.fuel⟩
theorem laws_FnExactUndoOk_ok (A : PM.Prims) (c_28 : laws_toUndo_T) (c_27 : spec_UndoOk_T) (c_29 : impl_UndoOk_T) (aU_Kind : Int) (aU_Key : Int) (aU_Val : Int) (k : PM.V → PM.R) : PM.pfun A cx [] (laws_FnExactUndoOk_E A c_28 c_27 c_29) Go.Proofs.Try.f5 [.agg [.int .i64 aU_Kind, .int .i64 aU_Key, .int .i64 aU_Val]] k = laws_FnExactUndoOk_f A c_28 c_27 c_29 aU_Kind aU_Key aU_Val (fun r0 => k (.bool r0)) := by kernel_rfl

theorem laws_FnExactUndoOk_fn : PM.FnIs Try.prog 5 Try.f5 := .of Try.func5 (by kernel_rfl) (by kernel_rfl)
theorem laws_FnExactUndoOk_g : PM.GOk Try.prog cx 5 ⟨[], laws_FnExactUndoOk_w (laws_FnExactUndoOk PM.std)⟩ := by
  refine ⟨laws_FnExactUndoOk_fn.enter, fun _ ds k r h => ?_, fun hm => absurd rfl hm⟩
  change laws_FnExactUndoOk_w (laws_FnExactUndoOk PM.std) ds k = some r at h
  unfold laws_FnExactUndoOk_w at h
  split at h
  · exact PM.pfun_ok (E := laws_FnExactUndoOk_E PM.std (laws_toUndo PM.std) (spec_UndoOk PM.std) (impl_UndoOk PM.std)) (L := fun n => laws_FnExactUndoOk_L PM.std (laws_toUndo PM.std) (spec_UndoOk PM.std) (impl_UndoOk PM.std) n) (N := PM.std.fuel) cx_ok (.cons laws_toUndo_g (.cons spec_UndoOk_g (.cons impl_UndoOk_g .nil))) mixed .nil laws_FnExactUndoOk_fn (by kernel_rfl) ⟨rfl, fun _ _ _ => rfl, fun n cur σ K r h => by cases h⟩
      ((laws_FnExactUndoOk_ok PM.std (laws_toUndo PM.std) (spec_UndoOk PM.std) (impl_UndoOk PM.std) _ _ _ k).trans h)
  · cases h

abbrev laws_toIntS_T := (List Int) → ((List Int) → PM.R) → PM.R
noncomputable def laws_toIntS_w (c : laws_toIntS_T) (ds : List PM.V) (k : PM.V → PM.R) : PM.R :=
  match ds with
  | [.arr (.ints 3 .i64 a)] => c a (fun r0 => k (.arr (.ints 3 .i64 r0)))
  | _ => none
noncomputable def laws_toIntS_l0 (A : PM.Prims) : Nat → (List Int) → (Int) → (List Int) → ((List Int) → PM.R) → PM.R
  | 0, _, _, _, _ => none
  | n + 1, a1, i2, o03, kx0_0 =>
    bif (A.lt i2 (A.ilen a1)) then
      bif (A.inb i2 (A.ilen a1)) then
        bif (A.inb i2 (A.ilen o03)) then
          laws_toIntS_l0 A n a1 (A.add .i64 i2 1) (A.iset o03 i2 (A.iget a1 i2)) kx0_0
        else
          none
      else
        none
    else
      kx0_0 o03
noncomputable def laws_toIntS_f (A : PM.Prims) (a : List Int) (k : (List Int) → PM.R) : PM.R :=
  bif (A.mkOk (A.ilen a)) then
    bif (A.le (A.ilen a) (A.ilen a)) then
      bif (A.mkOk (A.ilen a)) then
        laws_toIntS_l0 A A.fuel a 0 (A.izero (A.ilen a)) (fun o045 =>
          k o045)
      else
        none
    else
      none
  else
    none
noncomputable def laws_toIntS (A : PM.Prims) : laws_toIntS_T := laws_toIntS_f A
noncomputable def laws_toIntS_L (A : PM.Prims) (n : Nat) : PM.Lam := fun cur σ K =>
  match cur, σ, K with
  | 0, ⟨[(0, .arr (.ints 3 .i64 a1)), (3, .sref 0), (4, .int .i64 i2)], [(0, .arr true (.ints 3 .i64 o03))]⟩, K => laws_toIntS_l0 A n a1 i2 o03 (fun o04 => K (.exit 0) ⟨[(3, .sref 0)], [(0, .arr true (.ints 3 .i64 o04))]⟩)
  | _, _, _ => none
noncomputable def laws_toIntS_E (A : PM.Prims) : PM.Env := ⟨[], [], [(0, [0, 3, 4], [2, 3])], [(0, [0]), (1, [0, 3]), (2, [0, 3, 4]), (3, [0, 3, 4, 11]), (4, [0, 3, 4]), (5, [0, 3, 4]), (6, [2])], laws_toIntS_L A A.fuel⟩
theorem laws_toIntS_l0_ok (A : PM.Prims) (n : Nat) (a1 : List Int) (i2 : Int) (o03 : List Int) (K : Go.Exit → PM.S → PM.R) : laws_toIntS_L A (n + 1) 0 ⟨[(0, .arr (.ints 3 .i64 a1)), (3, .sref 0), (4, .int .i64 i2)], [(0, .arr true (.ints 3 .i64 o03))]⟩ K = PM.roundF A cx (PM.runD A cx (laws_toIntS_E A).inl (laws_toIntS_E A).Γ 3) (laws_toIntS_E A) (laws_toIntS_L A n) 0 Go.Proofs.Try.f31 ⟨[(0, .arr (.ints 3 .i64 a1)), (3, .sref 0), (4, .int .i64 i2)], [(0, .arr true (.ints 3 .i64 o03))]⟩ K := by kernel_rfl
theorem laws_toIntS_ok (A : PM.Prims) (a : List Int) (k : PM.V → PM.R) : PM.pfun A cx [] (laws_toIntS_E A) Go.Proofs.Try.f31 [.arr (.ints 3 .i64 a)] k = laws_toIntS_f A a (fun r0 => k (.arr (.ints 3 .i64 r0))) := by kernel_rfl

theorem laws_toIntS_fn : PM.FnIs Try.prog 31 Try.f31 := .of Try.func31 (by kernel_rfl) (by kernel_rfl)
theorem laws_toIntS_g : PM.GOk Try.prog cx 31 ⟨[], laws_toIntS_w (laws_toIntS PM.std)⟩ := by
  refine ⟨laws_toIntS_fn.enter, fun _ ds k r h => ?_, fun hm => absurd rfl hm⟩
  change laws_toIntS_w (laws_toIntS PM.std) ds k = some r at h
  unfold laws_toIntS_w at h
  split at h
  · exact PM.pfun_ok (E := laws_toIntS_E PM.std) (L := fun n => laws_toIntS_L PM.std n) (N := PM.std.fuel) cx_ok .nil mixed .nil laws_toIntS_fn (by kernel_rfl) ⟨rfl, fun cur σ K => by
      dsimp only [laws_toIntS_L]
      split <;> rfl, fun n cur σ K r h => by
      dsimp only [laws_toIntS_L] at h
      split at h
      · exact (laws_toIntS_l0_ok PM.std n _ _ _ K).symm.trans h
      · cases h⟩
      ((laws_toIntS_ok PM.std _ k).trans h)
  · cases h

abbrev spec_l15Slot_T := (Int) → ((Int) → (Int) → PM.R) → PM.R
noncomputable def spec_l15Slot_w (c : spec_l15Slot_T) (ds : List PM.V) (k : PM.V → PM.R) : PM.R :=
  match ds with
  | [.int .i64 s] => c s (fun r0 r1 => k (.tup [.int .i64 r0, .int .i64 r1]))
  | _ => none
noncomputable def spec_l15Slot_f (A : PM.Prims) (s : Int) (k : (Int) → (Int) → PM.R) : PM.R :=
  bif (A.eq s 0) then
    k (-1) 0
  else
    bif (A.nz 65536) then
      bif (A.nz 65536) then
        k (A.quo .i64 (A.sub .i64 s 1) 65536) (A.rem .i64 (A.sub .i64 s 1) 65536)
      else
        none
    else
      none
noncomputable def spec_l15Slot (A : PM.Prims) : spec_l15Slot_T := spec_l15Slot_f A
noncomputable def spec_l15Slot_L (A : PM.Prims) (n : Nat) : PM.Lam := fun cur σ K =>
  match cur, σ, K with
  | _, _, _ => none
noncomputable def spec_l15Slot_E (A : PM.Prims) : PM.Env := ⟨[], [], [], [(0, [0]), (1, [0, 5]), (2, [2, 3]), (3, [2, 3])], spec_l15Slot_L A A.fuel⟩
theorem spec_l15Slot_ok (A : PM.Prims) (s : Int) (k : PM.V → PM.R) : PM.pfun A cx [] (spec_l15Slot_E A) Go.Proofs.Try.f75 [.int .i64 s] k = spec_l15Slot_f A s (fun r0 r1 => k (.tup [.int .i64 r0, .int .i64 r1])) := by kernel_rfl

theorem spec_l15Slot_fn : PM.FnIs Try.prog 75 Try.f75 := .of Try.func75 (by kernel_rfl) (by kernel_rfl)
theorem spec_l15Slot_g : PM.GOk Try.prog cx 75 ⟨[], spec_l15Slot_w (spec_l15Slot PM.std)⟩ := by
  refine ⟨spec_l15Slot_fn.enter, fun _ ds k r h => ?_, fun hm => absurd rfl hm⟩
  change spec_l15Slot_w (spec_l15Slot PM.std) ds k = some r at h
  unfold spec_l15Slot_w at h
  split at h
  · exact PM.pfun_ok (E := spec_l15Slot_E PM.std) (L := fun n => spec_l15Slot_L PM.std n) (N := PM.std.fuel) cx_ok .nil mixed .nil spec_l15Slot_fn (by kernel_rfl) ⟨rfl, fun _ _ _ => rfl, fun n cur σ K r h => by cases h⟩
      ((spec_l15Slot_ok PM.std _ k).trans h)
  · cases h

abbrev spec_SlotsOk_T := (List Int) → ((Bool) → PM.R) → PM.R
noncomputable def spec_SlotsOk_w (c : spec_SlotsOk_T) (ds : List PM.V) (k : PM.V → PM.R) : PM.R :=
  match ds with
  | [.arr (.ints 3 .i64 l)] => c l (fun r0 => k (.bool r0))
  | _ => none
noncomputable def spec_SlotsOk_l0 (A : PM.Prims) (c_74 : spec_l1In_T) (c_20 : spec_BucketOf_T) (c_75 : spec_l15Slot_T) : Nat → (List Int) → (Int) → (List Bool) → ((Bool) → PM.R) → (Unit → PM.R) → PM.R
  | 0, _, _, _, _, _ => none
  | n + 1, l1, i2, o03, kret_0, kx0_0 =>
    bif (A.lt i2 (A.ilen l1)) then
      bif (A.inb i2 (A.ilen l1)) then
        c_74 (A.iget l1 i2) 0 524288 (fun r4 =>
          bif (A.not r4) then
            kret_0 false
          else
            bif (A.inb i2 (A.ilen l1)) then
              c_75 (A.iget l1 i2) (fun r6 r7 =>
                bif (A.lt r6 0) then
                  spec_SlotsOk_l0 A c_74 c_20 c_75 n l1 (A.add .i64 i2 1) o03 kret_0 kx0_0
                else
                  bif (A.inb r6 (A.blen o03)) then
                    bif (A.bget o03 r6) then
                      kret_0 false
                    else
                      c_20 r6 (fun r8 =>
                        bif (A.nz 4) then
                          bif (A.not (A.eq r8 (A.quo .i64 i2 4))) then
                            kret_0 false
                          else
                            bif (A.inb r6 (A.blen o03)) then
                              spec_SlotsOk_l0 A c_74 c_20 c_75 n l1 (A.add .i64 i2 1) (A.bset o03 r6 true) kret_0 kx0_0
                            else
                              none
                        else
                          none)
                  else
                    none)
            else
              none)
      else
        none
    else
      kx0_0 ()
noncomputable def spec_SlotsOk_f (A : PM.Prims) (c_74 : spec_l1In_T) (c_20 : spec_BucketOf_T) (c_75 : spec_l15Slot_T) (l : List Int) (k : (Bool) → PM.R) : PM.R :=
  bif (A.not (A.eq (A.ilen l) 16)) then
    k false
  else
    bif (A.mkOk 8) then
      bif (A.le 8 8) then
        bif (A.mkOk 8) then
          spec_SlotsOk_l0 A c_74 c_20 c_75 A.fuel l 0 (A.bzero 8) (fun t259 =>
            k t259) (fun _ =>
            k true)
        else
          none
      else
        none
    else
      none
noncomputable def spec_SlotsOk (A : PM.Prims) : spec_SlotsOk_T := spec_SlotsOk_f A (spec_l1In A) (spec_BucketOf A) (spec_l15Slot A)
noncomputable def spec_SlotsOk_L (A : PM.Prims) (c_74 : spec_l1In_T) (c_20 : spec_BucketOf_T) (c_75 : spec_l15Slot_T) (n : Nat) : PM.Lam := fun cur σ K =>
  match cur, σ, K with
  | 0, ⟨[(0, .arr (.ints 3 .i64 l1)), (3, .sref 0), (4, .int .i64 i2)], [(0, .arr true (.bools 4 o03))]⟩, K => spec_SlotsOk_l0 A c_74 c_20 c_75 n l1 i2 o03 (fun t25 => K .ret ⟨[(2, .bool t25)], []⟩) (fun _ => K (.exit 0) ⟨[], []⟩)
  | _, _, _ => none
noncomputable def spec_SlotsOk_E (A : PM.Prims) (c_74 : spec_l1In_T) (c_20 : spec_BucketOf_T) (c_75 : spec_l15Slot_T) : PM.Env := ⟨[(74, ⟨[], spec_l1In_w c_74⟩), (20, ⟨[], spec_BucketOf_w c_20⟩), (75, ⟨[], spec_l15Slot_w c_75⟩)], [], [(0, [0, 3, 4], [2])], [(0, [0]), (1, [0, 9]), (2, [2]), (3, [0, 3]), (4, [0, 3, 4]), (5, [0, 3, 4, 14]), (6, [0, 3, 4]), (7, [0, 3, 4, 22]), (8, [2]), (9, [0, 3, 4, 5]), (10, [0, 3, 4, 5, 32]), (11, [0, 3, 4, 5, 43]), (12, [2]), (13, [0, 3, 4]), (14, [2])], spec_SlotsOk_L A c_74 c_20 c_75 A.fuel⟩
theorem spec_SlotsOk_l0_ok (A : PM.Prims) (c_74 : spec_l1In_T) (c_20 : spec_BucketOf_T) (c_75 : spec_l15Slot_T) (n : Nat) (l1 : List Int) (i2 : Int) (o03 : List Bool) (K : Go.Exit → PM.S → PM.R) : spec_SlotsOk_L A c_74 c_20 c_75 (n + 1) 0 ⟨[(0, .arr (.ints 3 .i64 l1)), (3, .sref 0), (4, .int .i64 i2)], [(0, .arr true (.bools 4 o03))]⟩ K = PM.roundF A cx (PM.runD A cx (spec_SlotsOk_E A c_74 c_20 c_75).inl (spec_SlotsOk_E A c_74 c_20 c_75).Γ 3) (spec_SlotsOk_E A c_74 c_20 c_75) (spec_SlotsOk_L A c_74 c_20 c_75 n) 0 Go.Proofs.Try.f30 ⟨[(0, .arr (.ints 3 .i64 l1)), (3, .sref 0), (4, .int .i64 i2)], [(0, .arr true (.bools 4 o03))]⟩ K := by kernel_rfl
theorem spec_SlotsOk_ok (A : PM.Prims) (c_74 : spec_l1In_T) (c_20 : spec_BucketOf_T) (c_75 : spec_l15Slot_T) (l : List Int) (k : PM.V → PM.R) : PM.pfun A cx [] (spec_SlotsOk_E A c_74 c_20 c_75) Go.Proofs.Try.f30 [.arr (.ints 3 .i64 l)] k = spec_SlotsOk_f A c_74 c_20 c_75 l (fun r0 => k (.bool r0)) := by kernel_rfl

theorem spec_SlotsOk_fn : PM.FnIs Try.prog 30 Try.f30 := .of Try.func30 (by kernel_rfl) (by kernel_rfl)
theorem spec_SlotsOk_g : PM.GOk Try.prog cx 30 ⟨[], spec_SlotsOk_w (spec_SlotsOk PM.std)⟩ := by
  refine ⟨spec_SlotsOk_fn.enter, fun _ ds k r h => ?_, fun hm => absurd rfl hm⟩
  change spec_SlotsOk_w (spec_SlotsOk PM.std) ds k = some r at h
  unfold spec_SlotsOk_w at h
  split at h
  · exact PM.pfun_ok (E := spec_SlotsOk_E PM.std (spec_l1In PM.std) (spec_BucketOf PM.std) (spec_l15Slot PM.std)) (L := fun n => spec_SlotsOk_L PM.std (spec_l1In PM.std) (spec_BucketOf PM.std) (spec_l15Slot PM.std) n) (N := PM.std.fuel) cx_ok (.cons spec_l1In_g (.cons spec_BucketOf_g (.cons spec_l15Slot_g .nil))) mixed .nil spec_SlotsOk_fn (by kernel_rfl) ⟨rfl, fun cur σ K => by
      dsimp only [spec_SlotsOk_L]
      split <;> rfl, fun n cur σ K r h => by
      dsimp only [spec_SlotsOk_L] at h
      split at h
      · exact (spec_SlotsOk_l0_ok PM.std (spec_l1In PM.std) (spec_BucketOf PM.std) (spec_l15Slot PM.std) n _ _ _ K).symm.trans h
      · cases h⟩
      ((spec_SlotsOk_ok PM.std (spec_l1In PM.std) (spec_BucketOf PM.std) (spec_l15Slot PM.std) _ k).trans h)
  · cases h

abbrev impl_slotOf_T := (Int) → (Int) → ((Int) → PM.R) → PM.R
noncomputable def impl_slotOf_w (c : impl_slotOf_T) (ds : List PM.V) (k : PM.V → PM.R) : PM.R :=
  match ds with
  | [.int .i64 key, .int .i64 v] => c key v (fun r0 => k (.int .i64 r0))
  | _ => none
noncomputable def impl_slotOf_f (A : PM.Prims) (key : Int) (v : Int) (k : (Int) → PM.R) : PM.R :=
  k (A.add .i64 (A.add .i64 1 (A.mul .i64 65536 key)) v)
noncomputable def impl_slotOf (A : PM.Prims) : impl_slotOf_T := impl_slotOf_f A
noncomputable def impl_slotOf_L (A : PM.Prims) (n : Nat) : PM.Lam := fun cur σ K =>
  match cur, σ, K with
  | _, _, _ => none
noncomputable def impl_slotOf_E (A : PM.Prims) : PM.Env := ⟨[], [], [], [(0, [0, 1]), (1, [4])], impl_slotOf_L A A.fuel⟩
theorem impl_slotOf_ok (A : PM.Prims) (key : Int) (v : Int) (k : PM.V → PM.R) : PM.pfun A cx [] (impl_slotOf_E A) Go.Proofs.Try.f77 [.int .i64 key, .int .i64 v] k = impl_slotOf_f A key v (fun r0 => k (.int .i64 r0)) := by kernel_rfl

theorem impl_slotOf_fn : PM.FnIs Try.prog 77 Try.f77 := .of Try.func77 (by kernel_rfl) (by kernel_rfl)
theorem impl_slotOf_g : PM.GOk Try.prog cx 77 ⟨[], impl_slotOf_w (impl_slotOf PM.std)⟩ := by
  refine ⟨impl_slotOf_fn.enter, fun _ ds k r h => ?_, fun hm => absurd rfl hm⟩
  change impl_slotOf_w (impl_slotOf PM.std) ds k = some r at h
  unfold impl_slotOf_w at h
  split at h
  · exact PM.pfun_ok (E := impl_slotOf_E PM.std) (L := fun n => impl_slotOf_L PM.std n) (N := PM.std.fuel) cx_ok .nil mixed .nil impl_slotOf_fn (by kernel_rfl) ⟨rfl, fun _ _ _ => rfl, fun n cur σ K r h => by cases h⟩
      ((impl_slotOf_ok PM.std _ _ k).trans h)
  · cases h

abbrev impl_keyIn_T := (Int) → ((Int) → PM.R) → PM.R
noncomputable def impl_keyIn_w (c : impl_keyIn_T) (ds : List PM.V) (k : PM.V → PM.R) : PM.R :=
  match ds with
  | [.int .i64 slot] => c slot (fun r0 => k (.int .i64 r0))
  | _ => none
noncomputable def impl_keyIn_f (A : PM.Prims) (slot : Int) (k : (Int) → PM.R) : PM.R :=
  bif (A.nz 65536) then
    k (A.quo .i64 (A.sub .i64 slot 1) 65536)
  else
    none
noncomputable def impl_keyIn (A : PM.Prims) : impl_keyIn_T := impl_keyIn_f A
noncomputable def impl_keyIn_L (A : PM.Prims) (n : Nat) : PM.Lam := fun cur σ K =>
  match cur, σ, K with
  | _, _, _ => none
noncomputable def impl_keyIn_E (A : PM.Prims) : PM.Env := ⟨[], [], [], [(0, [0]), (1, [2])], impl_keyIn_L A A.fuel⟩
theorem impl_keyIn_ok (A : PM.Prims) (slot : Int) (k : PM.V → PM.R) : PM.pfun A cx [] (impl_keyIn_E A) Go.Proofs.Try.f78 [.int .i64 slot] k = impl_keyIn_f A slot (fun r0 => k (.int .i64 r0)) := by kernel_rfl

theorem impl_keyIn_fn : PM.FnIs Try.prog 78 Try.f78 := .of Try.func78 (by kernel_rfl) (by kernel_rfl)
theorem impl_keyIn_g : PM.GOk Try.prog cx 78 ⟨[], impl_keyIn_w (impl_keyIn PM.std)⟩ := by
  refine ⟨impl_keyIn_fn.enter, fun _ ds k r h => ?_, fun hm => absurd rfl hm⟩
  change impl_keyIn_w (impl_keyIn PM.std) ds k = some r at h
  unfold impl_keyIn_w at h
  split at h
  · exact PM.pfun_ok (E := impl_keyIn_E PM.std) (L := fun n => impl_keyIn_L PM.std n) (N := PM.std.fuel) cx_ok .nil mixed .nil impl_keyIn_fn (by kernel_rfl) ⟨rfl, fun _ _ _ => rfl, fun n cur σ K r h => by cases h⟩
      ((impl_keyIn_ok PM.std _ k).trans h)
  · cases h

abbrev impl_SlotsOk_T := (List Int) → ((Bool) → PM.R) → PM.R
noncomputable def impl_SlotsOk_w (c : impl_SlotsOk_T) (ds : List PM.V) (k : PM.V → PM.R) : PM.R :=
  match ds with
  | [.arr (.ints 3 .i64 l)] => c l (fun r0 => k (.bool r0))
  | _ => none
noncomputable def impl_SlotsOk_l0 (A : PM.Prims) (c_76 : impl_within_T) (c_21 : impl_BucketOf_T) (c_77 : impl_slotOf_T) (c_78 : impl_keyIn_T) : Nat → (List Int) → (Int) → (Int) → (List Bool) → ((Bool) → PM.R) → (Unit → PM.R) → PM.R
  | 0, _, _, _, _, _, _ => none
  | n + 1, t91, t102, t113, o04, kret_0, kx0_0 =>
    bif (A.lt t113 t102) then
      bif (A.inb t113 (A.ilen t91)) then
        bif (A.eq (A.iget t91 t113) 0) then
          impl_SlotsOk_l0 A c_76 c_21 c_77 c_78 n t91 t102 (A.add .i64 t113 1) o04 kret_0 kx0_0
        else
          c_77 7 65535 (fun r5 =>
            c_76 (A.iget t91 t113) 1 r5 (fun r6 =>
              bif (A.not r6) then
                kret_0 false
              else
                c_78 (A.iget t91 t113) (fun r8 =>
                  c_21 r8 (fun r9 =>
                    bif (A.nz 4) then
                      bif (A.not (A.eq r9 (A.quo .i64 t113 4))) then
                        kret_0 false
                      else
                        c_78 (A.iget t91 t113) (fun r10 =>
                          bif (A.inb r10 (A.blen o04)) then
                            bif (A.bget o04 r10) then
                              kret_0 false
                            else
                              c_78 (A.iget t91 t113) (fun r11 =>
                                bif (A.inb r11 (A.blen o04)) then
                                  impl_SlotsOk_l0 A c_76 c_21 c_77 c_78 n t91 t102 (A.add .i64 t113 1) (A.bset o04 r11 true) kret_0 kx0_0
                                else
                                  none)
                          else
                            none)
                    else
                      none))))
      else
        none
    else
      kx0_0 ()
noncomputable def impl_SlotsOk_f (A : PM.Prims) (c_76 : impl_within_T) (c_21 : impl_BucketOf_T) (c_77 : impl_slotOf_T) (c_78 : impl_keyIn_T) (l : List Int) (k : (Bool) → PM.R) : PM.R :=
  bif (A.not (A.eq (A.ilen l) 16)) then
    k false
  else
    impl_SlotsOk_l0 A c_76 c_21 c_77 c_78 A.fuel l (A.ilen l) 0 (A.bzero (8)) (fun t2712 =>
      k t2712) (fun _ =>
      k true)
noncomputable def impl_SlotsOk (A : PM.Prims) : impl_SlotsOk_T := impl_SlotsOk_f A (impl_within A) (impl_BucketOf A) (impl_slotOf A) (impl_keyIn A)
noncomputable def impl_SlotsOk_L (A : PM.Prims) (c_76 : impl_within_T) (c_21 : impl_BucketOf_T) (c_77 : impl_slotOf_T) (c_78 : impl_keyIn_T) (n : Nat) : PM.Lam := fun cur σ K =>
  match cur, σ, K with
  | 0, ⟨[(3, .parr 0 8), (9, .arr (.ints 3 .i64 t91)), (10, .int .i64 t102), (11, .int .i64 t113)], [(0, .arr true (.bools 86 o04))]⟩, K => impl_SlotsOk_l0 A c_76 c_21 c_77 c_78 n t91 t102 t113 o04 (fun t27 => K .ret ⟨[(2, .bool t27)], []⟩) (fun _ => K (.exit 0) ⟨[], []⟩)
  | _, _, _ => none
noncomputable def impl_SlotsOk_E (A : PM.Prims) (c_76 : impl_within_T) (c_21 : impl_BucketOf_T) (c_77 : impl_slotOf_T) (c_78 : impl_keyIn_T) : PM.Env := ⟨[(76, ⟨[], impl_within_w c_76⟩), (21, ⟨[], impl_BucketOf_w c_21⟩), (77, ⟨[], impl_slotOf_w c_77⟩), (78, ⟨[], impl_keyIn_w c_78⟩)], [], [(0, [3, 9, 10, 11], [2])], [(0, [0]), (1, [0, 8]), (2, [2]), (3, [0, 3]), (4, [3, 9, 10, 11]), (5, [3, 9, 10, 11, 12]), (6, [3, 4, 5, 9, 10, 11]), (7, [3, 4, 5, 9, 10, 11, 17]), (8, [3, 5, 9, 10, 11, 35]), (9, [2]), (10, [3, 9, 10, 11]), (11, [3, 9, 10, 11]), (12, [2])], impl_SlotsOk_L A c_76 c_21 c_77 c_78 A.fuel⟩
theorem impl_SlotsOk_l0_ok (A : PM.Prims) (c_76 : impl_within_T) (c_21 : impl_BucketOf_T) (c_77 : impl_slotOf_T) (c_78 : impl_keyIn_T) (n : Nat) (t91 : List Int) (t102 : Int) (t113 : Int) (o04 : List Bool) (K : Go.Exit → PM.S → PM.R) : impl_SlotsOk_L A c_76 c_21 c_77 c_78 (n + 1) 0 ⟨[(3, .parr 0 8), (9, .arr (.ints 3 .i64 t91)), (10, .int .i64 t102), (11, .int .i64 t113)], [(0, .arr true (.bools 86 o04))]⟩ K = PM.roundF A cx (PM.runD A cx (impl_SlotsOk_E A c_76 c_21 c_77 c_78).inl (impl_SlotsOk_E A c_76 c_21 c_77 c_78).Γ 3) (impl_SlotsOk_E A c_76 c_21 c_77 c_78) (impl_SlotsOk_L A c_76 c_21 c_77 c_78 n) 0 Go.Proofs.Try.f32 ⟨[(3, .parr 0 8), (9, .arr (.ints 3 .i64 t91)), (10, .int .i64 t102), (11, .int .i64 t113)], [(0, .arr true (.bools 86 o04))]⟩ K := by kernel_rfl
theorem impl_SlotsOk_ok (A : PM.Prims) (c_76 : impl_within_T) (c_21 : impl_BucketOf_T) (c_77 : impl_slotOf_T) (c_78 : impl_keyIn_T) (l : List Int) (k : PM.V → PM.R) : PM.pfun A cx [] (impl_SlotsOk_E A c_76 c_21 c_77 c_78) Go.Proofs.Try.f32 [.arr (.ints 3 .i64 l)] k = impl_SlotsOk_f A c_76 c_21 c_77 c_78 l (fun r0 => k (.bool r0)) := by kernel_rfl

theorem impl_SlotsOk_fn : PM.FnIs Try.prog 32 Try.f32 := .of Try.func32 (by kernel_rfl) (by kernel_rfl)
theorem impl_SlotsOk_g : PM.GOk Try.prog cx 32 ⟨[], impl_SlotsOk_w (impl_SlotsOk PM.std)⟩ := by
  refine ⟨impl_SlotsOk_fn.enter, fun _ ds k r h => ?_, fun hm => absurd rfl hm⟩
  change impl_SlotsOk_w (impl_SlotsOk PM.std) ds k = some r at h
  unfold impl_SlotsOk_w at h
  split at h
  · exact PM.pfun_ok (E := impl_SlotsOk_E PM.std (impl_within PM.std) (impl_BucketOf PM.std) (impl_slotOf PM.std) (impl_keyIn PM.std)) (L := fun n => impl_SlotsOk_L PM.std (impl_within PM.std) (impl_BucketOf PM.std) (impl_slotOf PM.std) (impl_keyIn PM.std) n) (N := PM.std.fuel) cx_ok (.cons impl_within_g (.cons impl_BucketOf_g (.cons impl_slotOf_g (.cons impl_keyIn_g .nil)))) mixed .nil impl_SlotsOk_fn (by kernel_rfl) ⟨rfl, fun cur σ K => by
      dsimp only [impl_SlotsOk_L]
      split <;> rfl, fun n cur σ K r h => by
      dsimp only [impl_SlotsOk_L] at h
      split at h
      · exact (impl_SlotsOk_l0_ok PM.std (impl_within PM.std) (impl_BucketOf PM.std) (impl_slotOf PM.std) (impl_keyIn PM.std) n _ _ _ _ K).symm.trans h
      · cases h⟩
      ((impl_SlotsOk_ok PM.std (impl_within PM.std) (impl_BucketOf PM.std) (impl_slotOf PM.std) (impl_keyIn PM.std) _ k).trans h)
  · cases h

abbrev laws_FnExactSlotsOk_T := (List Int) → ((Bool) → PM.R) → PM.R
noncomputable def laws_FnExactSlotsOk_w (c : laws_FnExactSlotsOk_T) (ds : List PM.V) (k : PM.V → PM.R) : PM.R :=
  match ds with
  | [.arr (.ints 3 .i64 aL)] => c aL (fun r0 => k (.bool r0))
  | _ => none
noncomputable def laws_FnExactSlotsOk_f (A : PM.Prims) (c_24 : laws_eqIntS_T) (c_31 : laws_toIntS_T) (c_30 : spec_SlotsOk_T) (c_32 : impl_SlotsOk_T) (aL : List Int) (k : (Bool) → PM.R) : PM.R :=
  bif (A.lt 1048576 (A.ilen aL)) then
    k true
  else
    c_31 aL (fun r1 =>
      c_30 r1 (fun r2 =>
        c_31 aL (fun r3 =>
          c_32 r3 (fun r4 =>
            bif (A.not (A.beq r4 r2)) then
              k false
            else
              c_31 aL (fun r5 =>
                c_24 r3 r5 (fun r6 =>
                  bif (A.not r6) then
                    k false
                  else
                    k true))))))
noncomputable def laws_FnExactSlotsOk (A : PM.Prims) : laws_FnExactSlotsOk_T := laws_FnExactSlotsOk_f A (laws_eqIntS A) (laws_toIntS A) (spec_SlotsOk A) (impl_SlotsOk A)
noncomputable def laws_FnExactSlotsOk_L (A : PM.Prims) (c_24 : laws_eqIntS_T) (c_31 : laws_toIntS_T) (c_30 : spec_SlotsOk_T) (c_32 : impl_SlotsOk_T) (n : Nat) : PM.Lam := fun cur σ K =>
  match cur, σ, K with
  | _, _, _ => none
noncomputable def laws_FnExactSlotsOk_E (A : PM.Prims) (c_24 : laws_eqIntS_T) (c_31 : laws_toIntS_T) (c_30 : spec_SlotsOk_T) (c_32 : impl_SlotsOk_T) : PM.Env := ⟨[(24, ⟨[], laws_eqIntS_w c_24⟩), (31, ⟨[], laws_toIntS_w c_31⟩), (30, ⟨[], spec_SlotsOk_w c_30⟩), (32, ⟨[], impl_SlotsOk_w c_32⟩)], [], [], [(0, [0]), (1, [0, 8]), (2, [2]), (3, [0, 3]), (4, [0, 3, 4]), (5, [0, 3, 4, 5]), (6, [0, 4, 18]), (7, [2]), (8, [23]), (9, [2]), (10, [2])], laws_FnExactSlotsOk_L A c_24 c_31 c_30 c_32 A.fuel⟩
theorem laws_FnExactSlotsOk_ok (A : PM.Prims) (c_24 : laws_eqIntS_T) (c_31 : laws_toIntS_T) (c_30 : spec_SlotsOk_T) (c_32 : impl_SlotsOk_T) (aL : List Int) (k : PM.V → PM.R) : PM.pfun A cx [] (laws_FnExactSlotsOk_E A c_24 c_31 c_30 c_32) Go.Proofs.Try.f6 [.arr (.ints 3 .i64 aL)] k = laws_FnExactSlotsOk_f A c_24 c_31 c_30 c_32 aL (fun r0 => k (.bool r0)) := by kernel_rfl

theorem laws_FnExactSlotsOk_fn : PM.FnIs Try.prog 6 Try.f6 := .of Try.func6 (by kernel_rfl) (by kernel_rfl)
theorem laws_FnExactSlotsOk_g : PM.GOk Try.prog cx 6 ⟨[], laws_FnExactSlotsOk_w (laws_FnExactSlotsOk PM.std)⟩ := by
  refine ⟨laws_FnExactSlotsOk_fn.enter, fun _ ds k r h => ?_, fun hm => absurd rfl hm⟩
  change laws_FnExactSlotsOk_w (laws_FnExactSlotsOk PM.std) ds k = some r at h
  unfold laws_FnExactSlotsOk_w at h
  split at h
  · exact PM.pfun_ok (E := laws_FnExactSlotsOk_E PM.std (laws_eqIntS PM.std) (laws_toIntS PM.std) (spec_SlotsOk PM.std) (impl_SlotsOk PM.std)) (L := fun n => laws_FnExactSlotsOk_L PM.std (laws_eqIntS PM.std) (laws_toIntS PM.std) (spec_SlotsOk PM.std) (impl_SlotsOk PM.std) n) (N := PM.std.fuel) cx_ok (.cons laws_eqIntS_g (.cons laws_toIntS_g (.cons spec_SlotsOk_g (.cons impl_SlotsOk_g .nil)))) mixed .nil laws_FnExactSlotsOk_fn (by kernel_rfl) ⟨rfl, fun _ _ _ => rfl, fun n cur σ K r h => by cases h⟩
      ((laws_FnExactSlotsOk_ok PM.std (laws_eqIntS PM.std) (laws_toIntS PM.std) (spec_SlotsOk PM.std) (impl_SlotsOk PM.std) _ k).trans h)
  · cases h

abbrev spec_l15At_T := (List Int) → (Int) → ((Int) → PM.R) → PM.R
noncomputable def spec_l15At_w (c : spec_l15At_T) (ds : List PM.V) (k : PM.V → PM.R) : PM.R :=
  match ds with
  | [.arr (.ints 3 .i64 l), .int .i64 key] => c l key (fun r0 => k (.int .i64 r0))
  | _ => none
noncomputable def spec_l15At_l0 (A : PM.Prims) (c_75 : spec_l15Slot_T) : Nat → (List Int) → (Int) → (Int) → ((Int) → PM.R) → (Unit → PM.R) → PM.R
  | 0, _, _, _, _, _ => none
  | n + 1, l1, key2, i3, kret_0, kx0_0 =>
    bif (A.lt i3 (A.ilen l1)) then
      bif (A.inb i3 (A.ilen l1)) then
        c_75 (A.iget l1 i3) (fun r4 r5 =>
          bif (A.eq r4 key2) then
            bif (A.le 0 key2) then
              kret_0 i3
            else
              spec_l15At_l0 A c_75 n l1 key2 (A.add .i64 i3 1) kret_0 kx0_0
          else
            spec_l15At_l0 A c_75 n l1 key2 (A.add .i64 i3 1) kret_0 kx0_0)
      else
        none
    else
      kx0_0 ()
noncomputable def spec_l15At_f (A : PM.Prims) (c_75 : spec_l15Slot_T) (l : List Int) (key : Int) (k : (Int) → PM.R) : PM.R :=
  spec_l15At_l0 A c_75 A.fuel l key 0 (fun t467 =>
    k t467) (fun _ =>
    k (-1))
noncomputable def spec_l15At (A : PM.Prims) : spec_l15At_T := spec_l15At_f A (spec_l15Slot A)
noncomputable def spec_l15At_L (A : PM.Prims) (c_75 : spec_l15Slot_T) (n : Nat) : PM.Lam := fun cur σ K =>
  match cur, σ, K with
  | 0, ⟨[(0, .arr (.ints 3 .i64 l1)), (1, .int .i64 key2), (5, .int .i64 i3)], []⟩, K => spec_l15At_l0 A c_75 n l1 key2 i3 (fun t46 => K .ret ⟨[(4, .int .i64 t46)], []⟩) (fun _ => K (.exit 0) ⟨[], []⟩)
  | _, _, _ => none
noncomputable def spec_l15At_E (A : PM.Prims) (c_75 : spec_l15Slot_T) : PM.Env := ⟨[(75, ⟨[], spec_l15Slot_w c_75⟩)], [], [(0, [0, 1, 5], [4])], [(0, [0, 1]), (1, [0, 1, 5]), (2, [0, 1, 5, 11]), (3, [0, 1, 5]), (4, [0, 1, 5, 6]), (5, [0, 1, 5, 28]), (6, [4]), (7, [4])], spec_l15At_L A c_75 A.fuel⟩
theorem spec_l15At_l0_ok (A : PM.Prims) (c_75 : spec_l15Slot_T) (n : Nat) (l1 : List Int) (key2 : Int) (i3 : Int) (K : Go.Exit → PM.S → PM.R) : spec_l15At_L A c_75 (n + 1) 0 ⟨[(0, .arr (.ints 3 .i64 l1)), (1, .int .i64 key2), (5, .int .i64 i3)], []⟩ K = PM.roundF A cx (PM.runD A cx (spec_l15At_E A c_75).inl (spec_l15At_E A c_75).Γ 3) (spec_l15At_E A c_75) (spec_l15At_L A c_75 n) 0 Go.Proofs.Try.f79 ⟨[(0, .arr (.ints 3 .i64 l1)), (1, .int .i64 key2), (5, .int .i64 i3)], []⟩ K := by kernel_rfl
theorem spec_l15At_ok (A : PM.Prims) (c_75 : spec_l15Slot_T) (l : List Int) (key : Int) (k : PM.V → PM.R) : PM.pfun A cx [] (spec_l15At_E A c_75) Go.Proofs.Try.f79 [.arr (.ints 3 .i64 l), .int .i64 key] k = spec_l15At_f A c_75 l key (fun r0 => k (.int .i64 r0)) := by kernel_rfl

theorem spec_l15At_fn : PM.FnIs Try.prog 79 Try.f79 := .of Try.func79 (by kernel_rfl) (by kernel_rfl)
theorem spec_l15At_g : PM.GOk Try.prog cx 79 ⟨[], spec_l15At_w (spec_l15At PM.std)⟩ := by
  refine ⟨spec_l15At_fn.enter, fun _ ds k r h => ?_, fun hm => absurd rfl hm⟩
  change spec_l15At_w (spec_l15At PM.std) ds k = some r at h
  unfold spec_l15At_w at h
  split at h
  · exact PM.pfun_ok (E := spec_l15At_E PM.std (spec_l15Slot PM.std)) (L := fun n => spec_l15At_L PM.std (spec_l15Slot PM.std) n) (N := PM.std.fuel) cx_ok (.cons spec_l15Slot_g .nil) mixed .nil spec_l15At_fn (by kernel_rfl) ⟨rfl, fun cur σ K => by
      dsimp only [spec_l15At_L]
      split <;> rfl, fun n cur σ K r h => by
      dsimp only [spec_l15At_L] at h
      split at h
      · exact (spec_l15At_l0_ok PM.std (spec_l15Slot PM.std) n _ _ _ K).symm.trans h
      · cases h⟩
      ((spec_l15At_ok PM.std (spec_l15Slot PM.std) _ _ k).trans h)
  · cases h

abbrev spec_SlotGet_T := (List Int) → (Int) → ((Int) → (Bool) → PM.R) → PM.R
noncomputable def spec_SlotGet_w (c : spec_SlotGet_T) (ds : List PM.V) (k : PM.V → PM.R) : PM.R :=
  match ds with
  | [.arr (.ints 3 .i64 l), .int .i64 key] => c l key (fun r0 r1 => k (.tup [.int .i64 r0, .bool r1]))
  | _ => none
noncomputable def spec_SlotGet_f (A : PM.Prims) (c_70 : spec_l15Key_T) (c_75 : spec_l15Slot_T) (c_30 : spec_SlotsOk_T) (c_79 : spec_l15At_T) (l : List Int) (key : Int) (k : (Int) → (Bool) → PM.R) : PM.R :=
  c_30 l (fun r1 =>
    bif (A.not r1) then
      k 0 false
    else
      c_70 key (fun r2 =>
        bif (A.not r2) then
          k 0 false
        else
          c_79 l key (fun r3 =>
            bif (A.lt r3 0) then
              k 0 false
            else
              c_79 l key (fun r4 =>
                bif (A.inb r4 (A.ilen l)) then
                  c_75 (A.iget l r4) (fun r5 r6 =>
                    k r6 true)
                else
                  none))))
noncomputable def spec_SlotGet (A : PM.Prims) : spec_SlotGet_T := spec_SlotGet_f A (spec_l15Key A) (spec_l15Slot A) (spec_SlotsOk A) (spec_l15At A)
noncomputable def spec_SlotGet_L (A : PM.Prims) (c_70 : spec_l15Key_T) (c_75 : spec_l15Slot_T) (c_30 : spec_SlotsOk_T) (c_79 : spec_l15At_T) (n : Nat) : PM.Lam := fun cur σ K =>
  match cur, σ, K with
  | _, _, _ => none
noncomputable def spec_SlotGet_E (A : PM.Prims) (c_70 : spec_l15Key_T) (c_75 : spec_l15Slot_T) (c_30 : spec_SlotsOk_T) (c_79 : spec_l15At_T) : PM.Env := ⟨[(70, ⟨[], spec_l15Key_w c_70⟩), (75, ⟨[], spec_l15Slot_w c_75⟩), (30, ⟨[], spec_SlotsOk_w c_30⟩), (79, ⟨[], spec_l15At_w c_79⟩)], [], [], [(0, [0, 1]), (1, [0, 1, 21]), (2, [4, 5]), (3, [7]), (4, [4, 5])], spec_SlotGet_L A c_70 c_75 c_30 c_79 A.fuel⟩
theorem spec_SlotGet_ok (A : PM.Prims) (c_70 : spec_l15Key_T) (c_75 : spec_l15Slot_T) (c_30 : spec_SlotsOk_T) (c_79 : spec_l15At_T) (l : List Int) (key : Int) (k : PM.V → PM.R) : PM.pfun A cx [] (spec_SlotGet_E A c_70 c_75 c_30 c_79) Go.Proofs.Try.f33 [.arr (.ints 3 .i64 l), .int .i64 key] k = spec_SlotGet_f A c_70 c_75 c_30 c_79 l key (fun r0 r1 => k (.tup [.int .i64 r0, .bool r1])) := by kernel_rfl

theorem spec_SlotGet_fn : PM.FnIs Try.prog 33 Try.f33 := .of Try.func33 (by kernel_rfl) (by kernel_rfl)
theorem spec_SlotGet_g : PM.GOk Try.prog cx 33 ⟨[], spec_SlotGet_w (spec_SlotGet PM.std)⟩ := by
  refine ⟨spec_SlotGet_fn.enter, fun _ ds k r h => ?_, fun hm => absurd rfl hm⟩
  change spec_SlotGet_w (spec_SlotGet PM.std) ds k = some r at h
  unfold spec_SlotGet_w at h
  split at h
  · exact PM.pfun_ok (E := spec_SlotGet_E PM.std (spec_l15Key PM.std) (spec_l15Slot PM.std) (spec_SlotsOk PM.std) (spec_l15At PM.std)) (L := fun n => spec_SlotGet_L PM.std (spec_l15Key PM.std) (spec_l15Slot PM.std) (spec_SlotsOk PM.std) (spec_l15At PM.std) n) (N := PM.std.fuel) cx_ok (.cons spec_l15Key_g (.cons spec_l15Slot_g (.cons spec_SlotsOk_g (.cons spec_l15At_g .nil)))) mixed .nil spec_SlotGet_fn (by kernel_rfl) ⟨rfl, fun _ _ _ => rfl, fun n cur σ K r h => by cases h⟩
      ((spec_SlotGet_ok PM.std (spec_l15Key PM.std) (spec_l15Slot PM.std) (spec_SlotsOk PM.std) (spec_l15At PM.std) _ _ k).trans h)
  · cases h

abbrev impl_find_T := (List Int) → (Int) → ((Int) → PM.R) → PM.R
noncomputable def impl_find_w (c : impl_find_T) (ds : List PM.V) (k : PM.V → PM.R) : PM.R :=
  match ds with
  | [.arr (.ints 3 .i64 l), .int .i64 key] => c l key (fun r0 => k (.int .i64 r0))
  | _ => none
noncomputable def impl_find_l0 (A : PM.Prims) (c_78 : impl_keyIn_T) : Nat → (Int) → (List Int) → (Int) → (Int) → ((Int) → PM.R) → (Unit → PM.R) → PM.R
  | 0, _, _, _, _, _, _ => none
  | n + 1, key1, t72, t83, t94, kret_0, kx0_0 =>
    bif (A.lt t94 t83) then
      bif (A.inb t94 (A.ilen t72)) then
        bif (A.lt 0 (A.iget t72 t94)) then
          c_78 (A.iget t72 t94) (fun r5 =>
            bif (A.eq r5 key1) then
              kret_0 t94
            else
              impl_find_l0 A c_78 n key1 t72 t83 (A.add .i64 t94 1) kret_0 kx0_0)
        else
          impl_find_l0 A c_78 n key1 t72 t83 (A.add .i64 t94 1) kret_0 kx0_0
      else
        none
    else
      kx0_0 ()
noncomputable def impl_find_f (A : PM.Prims) (c_78 : impl_keyIn_T) (l : List Int) (key : Int) (k : (Int) → PM.R) : PM.R :=
  impl_find_l0 A c_78 A.fuel key l (A.ilen l) 0 (fun t467 =>
    k t467) (fun _ =>
    k (-1))
noncomputable def impl_find (A : PM.Prims) : impl_find_T := impl_find_f A (impl_keyIn A)
noncomputable def impl_find_L (A : PM.Prims) (c_78 : impl_keyIn_T) (n : Nat) : PM.Lam := fun cur σ K =>
  match cur, σ, K with
  | 0, ⟨[(1, .int .i64 key1), (7, .arr (.ints 3 .i64 t72)), (8, .int .i64 t83), (9, .int .i64 t94)], []⟩, K => impl_find_l0 A c_78 n key1 t72 t83 t94 (fun t46 => K .ret ⟨[(4, .int .i64 t46)], []⟩) (fun _ => K (.exit 0) ⟨[], []⟩)
  | _, _, _ => none
noncomputable def impl_find_E (A : PM.Prims) (c_78 : impl_keyIn_T) : PM.Env := ⟨[(78, ⟨[], impl_keyIn_w c_78⟩)], [], [(0, [1, 7, 8, 9], [4])], [(0, [0, 1]), (1, [1, 7, 8, 9]), (2, [1, 7, 8, 9, 10]), (3, [1, 5, 6, 7, 8, 9]), (4, [1, 5, 7, 8, 9, 21]), (5, [4]), (6, [1, 7, 8, 9]), (7, [4])], impl_find_L A c_78 A.fuel⟩
theorem impl_find_l0_ok (A : PM.Prims) (c_78 : impl_keyIn_T) (n : Nat) (key1 : Int) (t72 : List Int) (t83 : Int) (t94 : Int) (K : Go.Exit → PM.S → PM.R) : impl_find_L A c_78 (n + 1) 0 ⟨[(1, .int .i64 key1), (7, .arr (.ints 3 .i64 t72)), (8, .int .i64 t83), (9, .int .i64 t94)], []⟩ K = PM.roundF A cx (PM.runD A cx (impl_find_E A c_78).inl (impl_find_E A c_78).Γ 3) (impl_find_E A c_78) (impl_find_L A c_78 n) 0 Go.Proofs.Try.f80 ⟨[(1, .int .i64 key1), (7, .arr (.ints 3 .i64 t72)), (8, .int .i64 t83), (9, .int .i64 t94)], []⟩ K := by kernel_rfl
theorem impl_find_ok (A : PM.Prims) (c_78 : impl_keyIn_T) (l : List Int) (key : Int) (k : PM.V → PM.R) : PM.pfun A cx [] (impl_find_E A c_78) Go.Proofs.Try.f80 [.arr (.ints 3 .i64 l), .int .i64 key] k = impl_find_f A c_78 l key (fun r0 => k (.int .i64 r0)) := by kernel_rfl

theorem impl_find_fn : PM.FnIs Try.prog 80 Try.f80 := .of Try.func80 (by kernel_rfl) (by kernel_rfl)
theorem impl_find_g : PM.GOk Try.prog cx 80 ⟨[], impl_find_w (impl_find PM.std)⟩ := by
  refine ⟨impl_find_fn.enter, fun _ ds k r h => ?_, fun hm => absurd rfl hm⟩
  change impl_find_w (impl_find PM.std) ds k = some r at h
  unfold impl_find_w at h
  split at h
  · exact PM.pfun_ok (E := impl_find_E PM.std (impl_keyIn PM.std)) (L := fun n => impl_find_L PM.std (impl_keyIn PM.std) n) (N := PM.std.fuel) cx_ok (.cons impl_keyIn_g .nil) mixed .nil impl_find_fn (by kernel_rfl) ⟨rfl, fun cur σ K => by
      dsimp only [impl_find_L]
      split <;> rfl, fun n cur σ K r h => by
      dsimp only [impl_find_L] at h
      split at h
      · exact (impl_find_l0_ok PM.std (impl_keyIn PM.std) n _ _ _ _ K).symm.trans h
      · cases h⟩
      ((impl_find_ok PM.std (impl_keyIn PM.std) _ _ k).trans h)
  · cases h

abbrev impl_SlotGet_T := (List Int) → (Int) → ((Int) → (Bool) → PM.R) → PM.R
noncomputable def impl_SlotGet_w (c : impl_SlotGet_T) (ds : List PM.V) (k : PM.V → PM.R) : PM.R :=
  match ds with
  | [.arr (.ints 3 .i64 l), .int .i64 key] => c l key (fun r0 r1 => k (.tup [.int .i64 r0, .bool r1]))
  | _ => none
noncomputable def impl_SlotGet_f (A : PM.Prims) (c_71 : impl_isKey_T) (c_32 : impl_SlotsOk_T) (c_80 : impl_find_T) (l : List Int) (key : Int) (k : (Int) → (Bool) → PM.R) : PM.R :=
  c_32 l (fun r1 =>
    bif (A.not r1) then
      k 0 false
    else
      c_71 key (fun r2 =>
        bif (A.not r2) then
          k 0 false
        else
          c_80 l key (fun r3 =>
            bif (A.lt r3 0) then
              k 0 false
            else
              c_80 l key (fun r4 =>
                bif (A.inb r4 (A.ilen l)) then
                  bif (A.nz 65536) then
                    k (A.rem .i64 (A.sub .i64 (A.iget l r4) 1) 65536) true
                  else
                    none
                else
                  none))))
noncomputable def impl_SlotGet (A : PM.Prims) : impl_SlotGet_T := impl_SlotGet_f A (impl_isKey A) (impl_SlotsOk A) (impl_find A)
noncomputable def impl_SlotGet_L (A : PM.Prims) (c_71 : impl_isKey_T) (c_32 : impl_SlotsOk_T) (c_80 : impl_find_T) (n : Nat) : PM.Lam := fun cur σ K =>
  match cur, σ, K with
  | _, _, _ => none
noncomputable def impl_SlotGet_E (A : PM.Prims) (c_71 : impl_isKey_T) (c_32 : impl_SlotsOk_T) (c_80 : impl_find_T) : PM.Env := ⟨[(71, ⟨[], impl_isKey_w c_71⟩), (32, ⟨[], impl_SlotsOk_w c_32⟩), (80, ⟨[], impl_find_w c_80⟩)], [], [], [(0, [0, 1]), (1, [0, 1, 19]), (2, [4, 5]), (3, [4, 5])], impl_SlotGet_L A c_71 c_32 c_80 A.fuel⟩
theorem impl_SlotGet_ok (A : PM.Prims) (c_71 : impl_isKey_T) (c_32 : impl_SlotsOk_T) (c_80 : impl_find_T) (l : List Int) (key : Int) (k : PM.V → PM.R) : PM.pfun A cx [] (impl_SlotGet_E A c_71 c_32 c_80) Go.Proofs.Try.f34 [.arr (.ints 3 .i64 l), .int .i64 key] k = impl_SlotGet_f A c_71 c_32 c_80 l key (fun r0 r1 => k (.tup [.int .i64 r0, .bool r1])) := by kernel_rfl

theorem impl_SlotGet_fn : PM.FnIs Try.prog 34 Try.f34 := .of Try.func34 (by kernel_rfl) (by kernel_rfl)
theorem impl_SlotGet_g : PM.GOk Try.prog cx 34 ⟨[], impl_SlotGet_w (impl_SlotGet PM.std)⟩ := by
  refine ⟨impl_SlotGet_fn.enter, fun _ ds k r h => ?_, fun hm => absurd rfl hm⟩
  change impl_SlotGet_w (impl_SlotGet PM.std) ds k = some r at h
  unfold impl_SlotGet_w at h
  split at h
  · exact PM.pfun_ok (E := impl_SlotGet_E PM.std (impl_isKey PM.std) (impl_SlotsOk PM.std) (impl_find PM.std)) (L := fun n => impl_SlotGet_L PM.std (impl_isKey PM.std) (impl_SlotsOk PM.std) (impl_find PM.std) n) (N := PM.std.fuel) cx_ok (.cons impl_isKey_g (.cons impl_SlotsOk_g (.cons impl_find_g .nil))) mixed .nil impl_SlotGet_fn (by kernel_rfl) ⟨rfl, fun _ _ _ => rfl, fun n cur σ K r h => by cases h⟩
      ((impl_SlotGet_ok PM.std (impl_isKey PM.std) (impl_SlotsOk PM.std) (impl_find PM.std) _ _ k).trans h)
  · cases h

abbrev laws_FnExactSlotGet_T := (List Int) → (Int) → ((Bool) → PM.R) → PM.R
noncomputable def laws_FnExactSlotGet_w (c : laws_FnExactSlotGet_T) (ds : List PM.V) (k : PM.V → PM.R) : PM.R :=
  match ds with
  | [.arr (.ints 3 .i64 aL), .int .i64 aKey] => c aL aKey (fun r0 => k (.bool r0))
  | _ => none
noncomputable def laws_FnExactSlotGet_f (A : PM.Prims) (c_24 : laws_eqIntS_T) (c_31 : laws_toIntS_T) (c_33 : spec_SlotGet_T) (c_34 : impl_SlotGet_T) (aL : List Int) (aKey : Int) (k : (Bool) → PM.R) : PM.R :=
  bif (A.lt 1048576 (A.ilen aL)) then
    k true
  else
    c_31 aL (fun r1 =>
      c_33 r1 aKey (fun r2 r3 =>
        c_31 aL (fun r4 =>
          c_34 r4 aKey (fun r5 r6 =>
            bif (A.not (A.eq r5 r2)) then
              k false
            else
              bif (A.not (A.beq r6 r3)) then
                k false
              else
                c_31 aL (fun r7 =>
                  c_24 r4 r7 (fun r8 =>
                    bif (A.not r8) then
                      k false
                    else
                      k true))))))
noncomputable def laws_FnExactSlotGet (A : PM.Prims) : laws_FnExactSlotGet_T := laws_FnExactSlotGet_f A (laws_eqIntS A) (laws_toIntS A) (spec_SlotGet A) (impl_SlotGet A)
noncomputable def laws_FnExactSlotGet_L (A : PM.Prims) (c_24 : laws_eqIntS_T) (c_31 : laws_toIntS_T) (c_33 : spec_SlotGet_T) (c_34 : impl_SlotGet_T) (n : Nat) : PM.Lam := fun cur σ K =>
  match cur, σ, K with
  | _, _, _ => none
noncomputable def laws_FnExactSlotGet_E (A : PM.Prims) (c_24 : laws_eqIntS_T) (c_31 : laws_toIntS_T) (c_33 : spec_SlotGet_T) (c_34 : impl_SlotGet_T) : PM.Env := ⟨[(24, ⟨[], laws_eqIntS_w c_24⟩), (31, ⟨[], laws_toIntS_w c_31⟩), (33, ⟨[], spec_SlotGet_w c_33⟩), (34, ⟨[], impl_SlotGet_w c_34⟩)], [], [], [(0, [0, 1]), (1, [0, 1, 12]), (2, [4]), (3, [0, 1, 5, 6]), (4, [0, 1, 5, 6, 7]), (5, [0, 5, 6, 7, 8, 9]), (6, [0, 7, 35]), (7, [4]), (8, [40]), (9, [4]), (10, [4])], laws_FnExactSlotGet_L A c_24 c_31 c_33 c_34 A.fuel⟩
theorem laws_FnExactSlotGet_ok (A : PM.Prims) (c_24 : laws_eqIntS_T) (c_31 : laws_toIntS_T) (c_33 : spec_SlotGet_T) (c_34 : impl_SlotGet_T) (aL : List Int) (aKey : Int) (k : PM.V → PM.R) : PM.pfun A cx [] (laws_FnExactSlotGet_E A c_24 c_31 c_33 c_34) Go.Proofs.Try.f7 [.arr (.ints 3 .i64 aL), .int .i64 aKey] k = laws_FnExactSlotGet_f A c_24 c_31 c_33 c_34 aL aKey (fun r0 => k (.bool r0)) := by kernel_rfl

theorem laws_FnExactSlotGet_fn : PM.FnIs Try.prog 7 Try.f7 := .of Try.func7 (by kernel_rfl) (by kernel_rfl)
theorem laws_FnExactSlotGet_g : PM.GOk Try.prog cx 7 ⟨[], laws_FnExactSlotGet_w (laws_FnExactSlotGet PM.std)⟩ := by
  refine ⟨laws_FnExactSlotGet_fn.enter, fun _ ds k r h => ?_, fun hm => absurd rfl hm⟩
  change laws_FnExactSlotGet_w (laws_FnExactSlotGet PM.std) ds k = some r at h
  unfold laws_FnExactSlotGet_w at h
  split at h
  · exact PM.pfun_ok (E := laws_FnExactSlotGet_E PM.std (laws_eqIntS PM.std) (laws_toIntS PM.std) (spec_SlotGet PM.std) (impl_SlotGet PM.std)) (L := fun n => laws_FnExactSlotGet_L PM.std (laws_eqIntS PM.std) (laws_toIntS PM.std) (spec_SlotGet PM.std) (impl_SlotGet PM.std) n) (N := PM.std.fuel) cx_ok (.cons laws_eqIntS_g (.cons laws_toIntS_g (.cons spec_SlotGet_g (.cons impl_SlotGet_g .nil)))) mixed .nil laws_FnExactSlotGet_fn (by kernel_rfl) ⟨rfl, fun _ _ _ => rfl, fun n cur σ K r h => by cases h⟩
      ((laws_FnExactSlotGet_ok PM.std (laws_eqIntS PM.std) (laws_toIntS PM.std) (spec_SlotGet PM.std) (impl_SlotGet PM.std) _ _ k).trans h)
  · cases h

abbrev laws_toOp_T := (Int) → (Int) → (Int) → (Int) → ((Int) → (Int) → (Int) → (Int) → PM.R) → PM.R
noncomputable def laws_toOp_w (c : laws_toOp_T) (ds : List PM.V) (k : PM.V → PM.R) : PM.R :=
  match ds with
  | [.agg [.int .i64 a_Kind, .int .i64 a_A, .int .i64 a_B, .int .i64 a_C]] => c a_Kind a_A a_B a_C (fun r0_Kind r0_A r0_B r0_C => k (.agg [.int .i64 r0_Kind, .int .i64 r0_A, .int .i64 r0_B, .int .i64 r0_C]))
  | _ => none
noncomputable def laws_toOp_f (A : PM.Prims) (a_Kind : Int) (a_A : Int) (a_B : Int) (a_C : Int) (k : (Int) → (Int) → (Int) → (Int) → PM.R) : PM.R :=
  k a_Kind a_A a_B a_C
noncomputable def laws_toOp (A : PM.Prims) : laws_toOp_T := laws_toOp_f A
noncomputable def laws_toOp_L (A : PM.Prims) (n : Nat) : PM.Lam := fun cur σ K =>
  match cur, σ, K with
  | _, _, _ => none
noncomputable def laws_toOp_E (A : PM.Prims) : PM.Env := ⟨[], [], [], [(0, [1, 2]), (1, [1, 2, 3]), (2, [1, 2, 3]), (3, [1, 2, 3]), (4, [1, 2, 3]), (5, [2, 3]), (6, [2])], laws_toOp_L A A.fuel⟩
theorem laws_toOp_ok (A : PM.Prims) (a_Kind : Int) (a_A : Int) (a_B : Int) (a_C : Int) (k : PM.V → PM.R) : PM.pfun A cx [] (laws_toOp_E A) Go.Proofs.Try.f36 [.agg [.int .i64 a_Kind, .int .i64 a_A, .int .i64 a_B, .int .i64 a_C]] k = laws_toOp_f A a_Kind a_A a_B a_C (fun r0_Kind r0_A r0_B r0_C => k (.agg [.int .i64 r0_Kind, .int .i64 r0_A, .int .i64 r0_B, .int .i64 r0_C])) := by kernel_rfl

theorem laws_toOp_fn : PM.FnIs Try.prog 36 Try.f36 := .of Try.func36 (by kernel_rfl) (by kernel_rfl)
theorem laws_toOp_g : PM.GOk Try.prog cx 36 ⟨[], laws_toOp_w (laws_toOp PM.std)⟩ := by
  refine ⟨laws_toOp_fn.enter, fun _ ds k r h => ?_, fun hm => absurd rfl hm⟩
  change laws_toOp_w (laws_toOp PM.std) ds k = some r at h
  unfold laws_toOp_w at h
  split at h
  · exact PM.pfun_ok (E := laws_toOp_E PM.std) (L := fun n => laws_toOp_L PM.std n) (N := PM.std.fuel) cx_ok .nil mixed .nil laws_toOp_fn (by kernel_rfl) ⟨rfl, fun _ _ _ => rfl, fun n cur σ K r h => by cases h⟩
      ((laws_toOp_ok PM.std _ _ _ _ k).trans h)
  · cases h

abbrev spec_l4Reg_T := (Int) → ((Bool) → PM.R) → PM.R
noncomputable def spec_l4Reg_w (c : spec_l4Reg_T) (ds : List PM.V) (k : PM.V → PM.R) : PM.R :=
  match ds with
  | [.int .i64 i] => c i (fun r0 => k (.bool r0))
  | _ => none
noncomputable def spec_l4Reg_f (A : PM.Prims) (c_74 : spec_l1In_T) (i : Int) (k : (Bool) → PM.R) : PM.R :=
  c_74 i 0 3 (fun r1 =>
    k r1)
noncomputable def spec_l4Reg (A : PM.Prims) : spec_l4Reg_T := spec_l4Reg_f A (spec_l1In A)
noncomputable def spec_l4Reg_L (A : PM.Prims) (c_74 : spec_l1In_T) (n : Nat) : PM.Lam := fun cur σ K =>
  match cur, σ, K with
  | _, _, _ => none
noncomputable def spec_l4Reg_E (A : PM.Prims) (c_74 : spec_l1In_T) : PM.Env := ⟨[(74, ⟨[], spec_l1In_w c_74⟩)], [], [], [(0, [0]), (1, [2])], spec_l4Reg_L A c_74 A.fuel⟩
theorem spec_l4Reg_ok (A : PM.Prims) (c_74 : spec_l1In_T) (i : Int) (k : PM.V → PM.R) : PM.pfun A cx [] (spec_l4Reg_E A c_74) Go.Proofs.Try.f111 [.int .i64 i] k = spec_l4Reg_f A c_74 i (fun r0 => k (.bool r0)) := by kernel_rfl

theorem spec_l4Reg_fn : PM.FnIs Try.prog 111 Try.f111 := .of Try.func111 (by kernel_rfl) (by kernel_rfl)
theorem spec_l4Reg_g : PM.GOk Try.prog cx 111 ⟨[], spec_l4Reg_w (spec_l4Reg PM.std)⟩ := by
  refine ⟨spec_l4Reg_fn.enter, fun _ ds k r h => ?_, fun hm => absurd rfl hm⟩
  change spec_l4Reg_w (spec_l4Reg PM.std) ds k = some r at h
  unfold spec_l4Reg_w at h
  split at h
  · exact PM.pfun_ok (E := spec_l4Reg_E PM.std (spec_l1In PM.std)) (L := fun n => spec_l4Reg_L PM.std (spec_l1In PM.std) n) (N := PM.std.fuel) cx_ok (.cons spec_l1In_g .nil) mixed .nil spec_l4Reg_fn (by kernel_rfl) ⟨rfl, fun _ _ _ => rfl, fun n cur σ K r h => by cases h⟩
      ((spec_l4Reg_ok PM.std (spec_l1In PM.std) _ k).trans h)
  · cases h

abbrev spec_l3Cell_T := (Int) → ((Bool) → PM.R) → PM.R
noncomputable def spec_l3Cell_w (c : spec_l3Cell_T) (ds : List PM.V) (k : PM.V → PM.R) : PM.R :=
  match ds with
  | [.int .i64 i] => c i (fun r0 => k (.bool r0))
  | _ => none
noncomputable def spec_l3Cell_f (A : PM.Prims) (c_74 : spec_l1In_T) (i : Int) (k : (Bool) → PM.R) : PM.R :=
  c_74 i 0 7 (fun r1 =>
    k r1)
noncomputable def spec_l3Cell (A : PM.Prims) : spec_l3Cell_T := spec_l3Cell_f A (spec_l1In A)
noncomputable def spec_l3Cell_L (A : PM.Prims) (c_74 : spec_l1In_T) (n : Nat) : PM.Lam := fun cur σ K =>
  match cur, σ, K with
  | _, _, _ => none
noncomputable def spec_l3Cell_E (A : PM.Prims) (c_74 : spec_l1In_T) : PM.Env := ⟨[(74, ⟨[], spec_l1In_w c_74⟩)], [], [], [(0, [0]), (1, [2])], spec_l3Cell_L A c_74 A.fuel⟩
theorem spec_l3Cell_ok (A : PM.Prims) (c_74 : spec_l1In_T) (i : Int) (k : PM.V → PM.R) : PM.pfun A cx [] (spec_l3Cell_E A c_74) Go.Proofs.Try.f112 [.int .i64 i] k = spec_l3Cell_f A c_74 i (fun r0 => k (.bool r0)) := by kernel_rfl

theorem spec_l3Cell_fn : PM.FnIs Try.prog 112 Try.f112 := .of Try.func112 (by kernel_rfl) (by kernel_rfl)
theorem spec_l3Cell_g : PM.GOk Try.prog cx 112 ⟨[], spec_l3Cell_w (spec_l3Cell PM.std)⟩ := by
  refine ⟨spec_l3Cell_fn.enter, fun _ ds k r h => ?_, fun hm => absurd rfl hm⟩
  change spec_l3Cell_w (spec_l3Cell PM.std) ds k = some r at h
  unfold spec_l3Cell_w at h
  split at h
  · exact PM.pfun_ok (E := spec_l3Cell_E PM.std (spec_l1In PM.std)) (L := fun n => spec_l3Cell_L PM.std (spec_l1In PM.std) n) (N := PM.std.fuel) cx_ok (.cons spec_l1In_g .nil) mixed .nil spec_l3Cell_fn (by kernel_rfl) ⟨rfl, fun _ _ _ => rfl, fun n cur σ K r h => by cases h⟩
      ((spec_l3Cell_ok PM.std (spec_l1In PM.std) _ k).trans h)
  · cases h

abbrev spec_OpOk_T := (Int) → (Int) → (Int) → (Int) → ((Bool) → PM.R) → PM.R
noncomputable def spec_OpOk_w (c : spec_OpOk_T) (ds : List PM.V) (k : PM.V → PM.R) : PM.R :=
  match ds with
  | [.agg [.int .i64 ___Kind, .int .i64 ___A, .int .i64 ___B, .int .i64 ___C]] => c ___Kind ___A ___B ___C (fun r0 => k (.bool r0))
  | _ => none
noncomputable def spec_OpOk_f (A : PM.Prims) (c_74 : spec_l1In_T) (c_72 : spec_l3Val_T) (c_111 : spec_l4Reg_T) (c_112 : spec_l3Cell_T) (___Kind : Int) (___A : Int) (___B : Int) (___C : Int) (k : (Bool) → PM.R) : PM.R :=
  bif (A.eq ___Kind 1) then
    c_111 ___A (fun r1 =>
      bif r1 then
        c_72 ___B (fun r2 =>
          bif r2 then
            k (A.eq ___C 0)
          else
            k false)
      else
        k false)
  else
    bif (A.eq ___Kind 2) then
      c_111 ___A (fun r3 =>
        bif r3 then
          c_111 ___B (fun r4 =>
            bif r4 then
              c_111 ___C (fun r5 =>
                k r5)
            else
              k false)
        else
          k false)
    else
      bif (A.eq ___Kind 3) then
        c_111 ___A (fun r6 =>
          bif r6 then
            c_111 ___B (fun r7 =>
              bif r7 then
                c_111 ___C (fun r8 =>
                  k r8)
              else
                k false)
          else
            k false)
      else
        bif (A.eq ___Kind 4) then
          c_111 ___A (fun r9 =>
            bif r9 then
              c_111 ___B (fun r10 =>
                bif r10 then
                  c_111 ___C (fun r11 =>
                    k r11)
                else
                  k false)
            else
              k false)
        else
          bif (A.eq ___Kind 5) then
            c_111 ___A (fun r12 =>
              bif r12 then
                c_112 ___B (fun r13 =>
                  bif r13 then
                    k (A.eq ___C 0)
                  else
                    k false)
              else
                k false)
          else
            bif (A.eq ___Kind 6) then
              c_112 ___A (fun r14 =>
                bif r14 then
                  c_111 ___B (fun r15 =>
                    bif r15 then
                      k (A.eq ___C 0)
                    else
                      k false)
                else
                  k false)
            else
              bif (A.eq ___Kind 7) then
                c_111 ___A (fun r16 =>
                  bif r16 then
                    c_74 ___B 1 20 (fun r17 =>
                      bif r17 then
                        k (A.eq ___C 0)
                      else
                        k false)
                  else
                    k false)
              else
                bif (A.eq ___Kind 8) then
                  c_111 ___A (fun r18 =>
                    bif r18 then
                      bif (A.eq ___B 0) then
                        k (A.eq ___C 0)
                      else
                        k false
                    else
                      k false)
                else
                  bif (A.eq ___Kind 15) then
                    c_111 ___A (fun r19 =>
                      bif r19 then
                        bif (A.eq ___B 0) then
                          k (A.eq ___C 0)
                        else
                          k false
                      else
                        k false)
                  else
                    bif (A.eq ___Kind 16) then
                      c_111 ___A (fun r20 =>
                        bif r20 then
                          bif (A.eq ___B 0) then
                            k (A.eq ___C 0)
                          else
                            k false
                        else
                          k false)
                    else
                      bif (A.eq ___Kind 9) then
                        bif (A.eq ___A 0) then
                          bif (A.eq ___B 0) then
                            k (A.eq ___C 0)
                          else
                            k false
                        else
                          k false
                      else
                        bif (A.eq ___Kind 10) then
                          bif (A.eq ___A 0) then
                            bif (A.eq ___B 0) then
                              k (A.eq ___C 0)
                            else
                              k false
                          else
                            k false
                        else
                          bif (A.eq ___Kind 11) then
                            bif (A.eq ___A 0) then
                              bif (A.eq ___B 0) then
                                k (A.eq ___C 0)
                              else
                                k false
                            else
                              k false
                          else
                            bif (A.eq ___Kind 12) then
                              c_74 ___A 0 7 (fun r21 =>
                                bif r21 then
                                  c_111 ___B (fun r22 =>
                                    bif r22 then
                                      c_111 ___C (fun r23 =>
                                        k r23)
                                    else
                                      k false)
                                else
                                  k false)
                            else
                              bif (A.eq ___Kind 13) then
                                c_111 ___A (fun r24 =>
                                  bif r24 then
                                    c_74 ___B 0 7 (fun r25 =>
                                      bif r25 then
                                        k (A.eq ___C 0)
                                      else
                                        k false)
                                  else
                                    k false)
                              else
                                bif (A.eq ___Kind 14) then
                                  c_74 ___A 0 7 (fun r26 =>
                                    bif r26 then
                                      c_111 ___B (fun r27 =>
                                        bif r27 then
                                          k (A.eq ___C 0)
                                        else
                                          k false)
                                    else
                                      k false)
                                else
                                  k false
noncomputable def spec_OpOk (A : PM.Prims) : spec_OpOk_T := spec_OpOk_f A (spec_l1In A) (spec_l3Val A) (spec_l4Reg A) (spec_l3Cell A)
noncomputable def spec_OpOk_L (A : PM.Prims) (c_74 : spec_l1In_T) (c_72 : spec_l3Val_T) (c_111 : spec_l4Reg_T) (c_112 : spec_l3Cell_T) (n : Nat) : PM.Lam := fun cur σ K =>
  match cur, σ, K with
  | _, _, _ => none
noncomputable def spec_OpOk_E (A : PM.Prims) (c_74 : spec_l1In_T) (c_72 : spec_l3Val_T) (c_111 : spec_l4Reg_T) (c_112 : spec_l3Cell_T) : PM.Env := ⟨[(74, ⟨[], spec_l1In_w c_74⟩), (72, ⟨[], spec_l3Val_w c_72⟩), (111, ⟨[], spec_l4Reg_w c_111⟩), (112, ⟨[], spec_l3Cell_w c_112⟩)], [], [], [(0, [1]), (1, [1, 4]), (2, [1, 4, 5]), (3, [2]), (4, [1, 4, 20]), (5, [1, 4, 20]), (6, [1, 4, 20]), (7, [2]), (8, [1, 4, 37]), (9, [2]), (10, [1, 4, 52]), (11, [2]), (12, [1, 4, 67]), (13, [2]), (14, [1, 4, 82]), (15, [1, 4, 82]), (16, [1, 4, 82]), (17, [2]), (18, [1, 4, 99]), (19, [1, 4, 99]), (20, [1, 4, 99]), (21, [2]), (22, [1, 4, 116]), (23, [2]), (24, [1, 4, 131]), (25, [2]), (26, [1, 146]), (27, [2]), (28, [2])], spec_OpOk_L A c_74 c_72 c_111 c_112 A.fuel⟩
theorem spec_OpOk_ok (A : PM.Prims) (c_74 : spec_l1In_T) (c_72 : spec_l3Val_T) (c_111 : spec_l4Reg_T) (c_112 : spec_l3Cell_T) (___Kind : Int) (___A : Int) (___B : Int) (___C : Int) (k : PM.V → PM.R) : PM.pfun A cx [] (spec_OpOk_E A c_74 c_72 c_111 c_112) Go.Proofs.Try.f103 [.agg [.int .i64 ___Kind, .int .i64 ___A, .int .i64 ___B, .int .i64 ___C]] k = spec_OpOk_f A c_74 c_72 c_111 c_112 ___Kind ___A ___B ___C (fun r0 => k (.bool r0)) := by kernel_rfl

theorem spec_OpOk_fn : PM.FnIs Try.prog 103 Try.f103 := .of Try.func103 (by kernel_rfl) (by kernel_rfl)
theorem spec_OpOk_g : PM.GOk Try.prog cx 103 ⟨[], spec_OpOk_w (spec_OpOk PM.std)⟩ := by
  refine ⟨spec_OpOk_fn.enter, fun _ ds k r h => ?_, fun hm => absurd rfl hm⟩
  change spec_OpOk_w (spec_OpOk PM.std) ds k = some r at h
  unfold spec_OpOk_w at h
  split at h
  · exact PM.pfun_ok (E := spec_OpOk_E PM.std (spec_l1In PM.std) (spec_l3Val PM.std) (spec_l4Reg PM.std) (spec_l3Cell PM.std)) (L := fun n => spec_OpOk_L PM.std (spec_l1In PM.std) (spec_l3Val PM.std) (spec_l4Reg PM.std) (spec_l3Cell PM.std) n) (N := PM.std.fuel) cx_ok (.cons spec_l1In_g (.cons spec_l3Val_g (.cons spec_l4Reg_g (.cons spec_l3Cell_g .nil)))) mixed .nil spec_OpOk_fn (by kernel_rfl) ⟨rfl, fun _ _ _ => rfl, fun n cur σ K r h => by cases h⟩
      ((spec_OpOk_ok PM.std (spec_l1In PM.std) (spec_l3Val PM.std) (spec_l4Reg PM.std) (spec_l3Cell PM.std) _ _ _ _ k).trans h)
  · cases h

abbrev spec_Touches_T := (Int) → (Int) → (Int) → (Int) → ((Int) → PM.R) → PM.R
noncomputable def spec_Touches_w (c : spec_Touches_T) (ds : List PM.V) (k : PM.V → PM.R) : PM.R :=
  match ds with
  | [.agg [.int .i64 o_Kind, .int .i64 o_A, .int .i64 o_B, .int .i64 o_C]] => c o_Kind o_A o_B o_C (fun r0 => k (.int .i64 r0))
  | _ => none
noncomputable def spec_Touches_f (A : PM.Prims) (c_103 : spec_OpOk_T) (o_Kind : Int) (o_A : Int) (o_B : Int) (o_C : Int) (k : (Int) → PM.R) : PM.R :=
  c_103 o_Kind o_A o_B o_C (fun r1 =>
    bif (A.not r1) then
      k 0
    else
      bif (A.eq o_Kind 5) then
        k 1
      else
        bif (A.eq o_Kind 6) then
          k 1
        else
          bif (A.eq o_Kind 12) then
            k 2
          else
            bif (A.eq o_Kind 13) then
              k 2
            else
              bif (A.eq o_Kind 14) then
                k 2
              else
                bif (A.eq o_Kind 15) then
                  k 2
                else
                  bif (A.eq o_Kind 16) then
                    k 2
                  else
                    k 0)
noncomputable def spec_Touches (A : PM.Prims) : spec_Touches_T := spec_Touches_f A (spec_OpOk A)
noncomputable def spec_Touches_L (A : PM.Prims) (c_103 : spec_OpOk_T) (n : Nat) : PM.Lam := fun cur σ K =>
  match cur, σ, K with
  | _, _, _ => none
noncomputable def spec_Touches_E (A : PM.Prims) (c_103 : spec_OpOk_T) : PM.Env := ⟨[(103, ⟨[], spec_OpOk_w c_103⟩)], [], [], [(0, [1]), (1, [1, 5]), (2, [2]), (3, [7]), (4, [7, 8]), (5, [7, 8]), (6, [2]), (7, [7, 11]), (8, [7, 11]), (9, [7, 11]), (10, [7, 11]), (11, [11]), (12, [2]), (13, [2])], spec_Touches_L A c_103 A.fuel⟩
theorem spec_Touches_ok (A : PM.Prims) (c_103 : spec_OpOk_T) (o_Kind : Int) (o_A : Int) (o_B : Int) (o_C : Int) (k : PM.V → PM.R) : PM.pfun A cx [] (spec_Touches_E A c_103) Go.Proofs.Try.f69 [.agg [.int .i64 o_Kind, .int .i64 o_A, .int .i64 o_B, .int .i64 o_C]] k = spec_Touches_f A c_103 o_Kind o_A o_B o_C (fun r0 => k (.int .i64 r0)) := by kernel_rfl

theorem spec_Touches_fn : PM.FnIs Try.prog 69 Try.f69 := .of Try.func69 (by kernel_rfl) (by kernel_rfl)
theorem spec_Touches_g : PM.GOk Try.prog cx 69 ⟨[], spec_Touches_w (spec_Touches PM.std)⟩ := by
  refine ⟨spec_Touches_fn.enter, fun _ ds k r h => ?_, fun hm => absurd rfl hm⟩
  change spec_Touches_w (spec_Touches PM.std) ds k = some r at h
  unfold spec_Touches_w at h
  split at h
  · exact PM.pfun_ok (E := spec_Touches_E PM.std (spec_OpOk PM.std)) (L := fun n => spec_Touches_L PM.std (spec_OpOk PM.std) n) (N := PM.std.fuel) cx_ok (.cons spec_OpOk_g .nil) mixed .nil spec_Touches_fn (by kernel_rfl) ⟨rfl, fun _ _ _ => rfl, fun n cur σ K r h => by cases h⟩
      ((spec_Touches_ok PM.std (spec_OpOk PM.std) _ _ _ _ k).trans h)
  · cases h

abbrev spec_BoostMode_T := (Int) → (Int) → (Int) → (Int) → ((Int) → (Int) → PM.R) → PM.R
noncomputable def spec_BoostMode_w (c : spec_BoostMode_T) (ds : List PM.V) (k : PM.V → PM.R) : PM.R :=
  match ds with
  | [.agg [.int .i64 o_Kind, .int .i64 o_A, .int .i64 o_B, .int .i64 o_C]] => c o_Kind o_A o_B o_C (fun r0 r1 => k (.tup [.int .i64 r0, .int .i64 r1]))
  | _ => none
noncomputable def spec_BoostMode_f (A : PM.Prims) (c_69 : spec_Touches_T) (o_Kind : Int) (o_A : Int) (o_B : Int) (o_C : Int) (k : (Int) → (Int) → PM.R) : PM.R :=
  c_69 o_Kind o_A o_B o_C (fun r1 =>
    bif (A.not (A.eq r1 2)) then
      k (-1) 0
    else
      bif (A.eq o_Kind 12) then
        k o_A 2
      else
        bif (A.eq o_Kind 14) then
          k o_A 2
        else
          bif (A.eq o_Kind 13) then
            k o_B 1
          else
            bif (A.eq o_Kind 15) then
              k 8 1
            else
              k 8 2)
noncomputable def spec_BoostMode (A : PM.Prims) : spec_BoostMode_T := spec_BoostMode_f A (spec_Touches A)
noncomputable def spec_BoostMode_L (A : PM.Prims) (c_69 : spec_Touches_T) (n : Nat) : PM.Lam := fun cur σ K =>
  match cur, σ, K with
  | _, _, _ => none
noncomputable def spec_BoostMode_E (A : PM.Prims) (c_69 : spec_Touches_T) : PM.Env := ⟨[(69, ⟨[], spec_Touches_w c_69⟩)], [], [], [(0, [1]), (1, [1, 6]), (2, [2, 3]), (3, [1, 8]), (4, [1, 8, 9]), (5, [1, 8, 9]), (6, [2, 3]), (7, [1, 8, 14]), (8, [2, 3]), (9, [18]), (10, [2, 3]), (11, [2, 3])], spec_BoostMode_L A c_69 A.fuel⟩
theorem spec_BoostMode_ok (A : PM.Prims) (c_69 : spec_Touches_T) (o_Kind : Int) (o_A : Int) (o_B : Int) (o_C : Int) (k : PM.V → PM.R) : PM.pfun A cx [] (spec_BoostMode_E A c_69) Go.Proofs.Try.f35 [.agg [.int .i64 o_Kind, .int .i64 o_A, .int .i64 o_B, .int .i64 o_C]] k = spec_BoostMode_f A c_69 o_Kind o_A o_B o_C (fun r0 r1 => k (.tup [.int .i64 r0, .int .i64 r1])) := by kernel_rfl

theorem spec_BoostMode_fn : PM.FnIs Try.prog 35 Try.f35 := .of Try.func35 (by kernel_rfl) (by kernel_rfl)
theorem spec_BoostMode_g : PM.GOk Try.prog cx 35 ⟨[], spec_BoostMode_w (spec_BoostMode PM.std)⟩ := by
  refine ⟨spec_BoostMode_fn.enter, fun _ ds k r h => ?_, fun hm => absurd rfl hm⟩
  change spec_BoostMode_w (spec_BoostMode PM.std) ds k = some r at h
  unfold spec_BoostMode_w at h
  split at h
  · exact PM.pfun_ok (E := spec_BoostMode_E PM.std (spec_Touches PM.std)) (L := fun n => spec_BoostMode_L PM.std (spec_Touches PM.std) n) (N := PM.std.fuel) cx_ok (.cons spec_Touches_g .nil) mixed .nil spec_BoostMode_fn (by kernel_rfl) ⟨rfl, fun _ _ _ => rfl, fun n cur σ K r h => by cases h⟩
      ((spec_BoostMode_ok PM.std (spec_Touches PM.std) _ _ _ _ k).trans h)
  · cases h

abbrev impl_isReg_T := (Int) → ((Bool) → PM.R) → PM.R
noncomputable def impl_isReg_w (c : impl_isReg_T) (ds : List PM.V) (k : PM.V → PM.R) : PM.R :=
  match ds with
  | [.int .i64 r] => c r (fun r0 => k (.bool r0))
  | _ => none
noncomputable def impl_isReg_f (A : PM.Prims) (c_76 : impl_within_T) (r : Int) (k : (Bool) → PM.R) : PM.R :=
  c_76 r 0 3 (fun r1 =>
    k r1)
noncomputable def impl_isReg (A : PM.Prims) : impl_isReg_T := impl_isReg_f A (impl_within A)
noncomputable def impl_isReg_L (A : PM.Prims) (c_76 : impl_within_T) (n : Nat) : PM.Lam := fun cur σ K =>
  match cur, σ, K with
  | _, _, _ => none
noncomputable def impl_isReg_E (A : PM.Prims) (c_76 : impl_within_T) : PM.Env := ⟨[(76, ⟨[], impl_within_w c_76⟩)], [], [], [(0, [0]), (1, [2])], impl_isReg_L A c_76 A.fuel⟩
theorem impl_isReg_ok (A : PM.Prims) (c_76 : impl_within_T) (r : Int) (k : PM.V → PM.R) : PM.pfun A cx [] (impl_isReg_E A c_76) Go.Proofs.Try.f104 [.int .i64 r] k = impl_isReg_f A c_76 r (fun r0 => k (.bool r0)) := by kernel_rfl

theorem impl_isReg_fn : PM.FnIs Try.prog 104 Try.f104 := .of Try.func104 (by kernel_rfl) (by kernel_rfl)
theorem impl_isReg_g : PM.GOk Try.prog cx 104 ⟨[], impl_isReg_w (impl_isReg PM.std)⟩ := by
  refine ⟨impl_isReg_fn.enter, fun _ ds k r h => ?_, fun hm => absurd rfl hm⟩
  change impl_isReg_w (impl_isReg PM.std) ds k = some r at h
  unfold impl_isReg_w at h
  split at h
  · exact PM.pfun_ok (E := impl_isReg_E PM.std (impl_within PM.std)) (L := fun n => impl_isReg_L PM.std (impl_within PM.std) n) (N := PM.std.fuel) cx_ok (.cons impl_within_g .nil) mixed .nil impl_isReg_fn (by kernel_rfl) ⟨rfl, fun _ _ _ => rfl, fun n cur σ K r h => by cases h⟩
      ((impl_isReg_ok PM.std (impl_within PM.std) _ k).trans h)
  · cases h

abbrev impl_isCell_T := (Int) → ((Bool) → PM.R) → PM.R
noncomputable def impl_isCell_w (c : impl_isCell_T) (ds : List PM.V) (k : PM.V → PM.R) : PM.R :=
  match ds with
  | [.int .i64 i] => c i (fun r0 => k (.bool r0))
  | _ => none
noncomputable def impl_isCell_f (A : PM.Prims) (c_76 : impl_within_T) (i : Int) (k : (Bool) → PM.R) : PM.R :=
  c_76 i 0 7 (fun r1 =>
    k r1)
noncomputable def impl_isCell (A : PM.Prims) : impl_isCell_T := impl_isCell_f A (impl_within A)
noncomputable def impl_isCell_L (A : PM.Prims) (c_76 : impl_within_T) (n : Nat) : PM.Lam := fun cur σ K =>
  match cur, σ, K with
  | _, _, _ => none
noncomputable def impl_isCell_E (A : PM.Prims) (c_76 : impl_within_T) : PM.Env := ⟨[(76, ⟨[], impl_within_w c_76⟩)], [], [], [(0, [0]), (1, [2])], impl_isCell_L A c_76 A.fuel⟩
theorem impl_isCell_ok (A : PM.Prims) (c_76 : impl_within_T) (i : Int) (k : PM.V → PM.R) : PM.pfun A cx [] (impl_isCell_E A c_76) Go.Proofs.Try.f105 [.int .i64 i] k = impl_isCell_f A c_76 i (fun r0 => k (.bool r0)) := by kernel_rfl

theorem impl_isCell_fn : PM.FnIs Try.prog 105 Try.f105 := .of Try.func105 (by kernel_rfl) (by kernel_rfl)
theorem impl_isCell_g : PM.GOk Try.prog cx 105 ⟨[], impl_isCell_w (impl_isCell PM.std)⟩ := by
  refine ⟨impl_isCell_fn.enter, fun _ ds k r h => ?_, fun hm => absurd rfl hm⟩
  change impl_isCell_w (impl_isCell PM.std) ds k = some r at h
  unfold impl_isCell_w at h
  split at h
  · exact PM.pfun_ok (E := impl_isCell_E PM.std (impl_within PM.std)) (L := fun n => impl_isCell_L PM.std (impl_within PM.std) n) (N := PM.std.fuel) cx_ok (.cons impl_within_g .nil) mixed .nil impl_isCell_fn (by kernel_rfl) ⟨rfl, fun _ _ _ => rfl, fun n cur σ K r h => by cases h⟩
      ((impl_isCell_ok PM.std (impl_within PM.std) _ k).trans h)
  · cases h

abbrev impl_OpOk_T := (Int) → (Int) → (Int) → (Int) → ((Bool) → PM.R) → PM.R
noncomputable def impl_OpOk_w (c : impl_OpOk_T) (ds : List PM.V) (k : PM.V → PM.R) : PM.R :=
  match ds with
  | [.agg [.int .i64 ___Kind, .int .i64 ___A, .int .i64 ___B, .int .i64 ___C]] => c ___Kind ___A ___B ___C (fun r0 => k (.bool r0))
  | _ => none
noncomputable def impl_OpOk_f (A : PM.Prims) (c_76 : impl_within_T) (c_71 : impl_isKey_T) (c_73 : impl_isValue_T) (c_104 : impl_isReg_T) (c_105 : impl_isCell_T) (___Kind : Int) (___A : Int) (___B : Int) (___C : Int) (k : (Bool) → PM.R) : PM.R :=
  bif (A.eq ___Kind 1) then
    c_104 ___A (fun r1 =>
      bif r1 then
        c_73 ___B (fun r2 =>
          bif r2 then
            k (A.eq ___C 0)
          else
            k false)
      else
        k false)
  else
    bif (A.eq ___Kind 2) then
      c_104 ___A (fun r3 =>
        bif r3 then
          c_104 ___B (fun r4 =>
            bif r4 then
              c_104 ___C (fun r5 =>
                k r5)
            else
              k false)
        else
          k false)
    else
      bif (A.eq ___Kind 3) then
        c_104 ___A (fun r6 =>
          bif r6 then
            c_104 ___B (fun r7 =>
              bif r7 then
                c_104 ___C (fun r8 =>
                  k r8)
              else
                k false)
          else
            k false)
      else
        bif (A.eq ___Kind 4) then
          c_104 ___A (fun r9 =>
            bif r9 then
              c_104 ___B (fun r10 =>
                bif r10 then
                  c_104 ___C (fun r11 =>
                    k r11)
                else
                  k false)
            else
              k false)
        else
          bif (A.eq ___Kind 5) then
            c_104 ___A (fun r12 =>
              bif r12 then
                c_105 ___B (fun r13 =>
                  bif r13 then
                    k (A.eq ___C 0)
                  else
                    k false)
              else
                k false)
          else
            bif (A.eq ___Kind 6) then
              c_105 ___A (fun r14 =>
                bif r14 then
                  c_104 ___B (fun r15 =>
                    bif r15 then
                      k (A.eq ___C 0)
                    else
                      k false)
                else
                  k false)
            else
              bif (A.eq ___Kind 7) then
                c_104 ___A (fun r16 =>
                  bif r16 then
                    c_76 ___B 1 20 (fun r17 =>
                      bif r17 then
                        k (A.eq ___C 0)
                      else
                        k false)
                  else
                    k false)
              else
                bif (A.eq ___Kind 8) then
                  c_104 ___A (fun r18 =>
                    bif r18 then
                      bif (A.eq ___B 0) then
                        k (A.eq ___C 0)
                      else
                        k false
                    else
                      k false)
                else
                  bif (A.eq ___Kind 15) then
                    c_104 ___A (fun r19 =>
                      bif r19 then
                        bif (A.eq ___B 0) then
                          k (A.eq ___C 0)
                        else
                          k false
                      else
                        k false)
                  else
                    bif (A.eq ___Kind 16) then
                      c_104 ___A (fun r20 =>
                        bif r20 then
                          bif (A.eq ___B 0) then
                            k (A.eq ___C 0)
                          else
                            k false
                        else
                          k false)
                    else
                      bif (A.eq ___Kind 9) then
                        bif (A.eq ___A 0) then
                          bif (A.eq ___B 0) then
                            k (A.eq ___C 0)
                          else
                            k false
                        else
                          k false
                      else
                        bif (A.eq ___Kind 10) then
                          bif (A.eq ___A 0) then
                            bif (A.eq ___B 0) then
                              k (A.eq ___C 0)
                            else
                              k false
                          else
                            k false
                        else
                          bif (A.eq ___Kind 11) then
                            bif (A.eq ___A 0) then
                              bif (A.eq ___B 0) then
                                k (A.eq ___C 0)
                              else
                                k false
                            else
                              k false
                          else
                            bif (A.eq ___Kind 12) then
                              c_71 ___A (fun r21 =>
                                bif r21 then
                                  c_104 ___B (fun r22 =>
                                    bif r22 then
                                      c_104 ___C (fun r23 =>
                                        k r23)
                                    else
                                      k false)
                                else
                                  k false)
                            else
                              bif (A.eq ___Kind 13) then
                                c_104 ___A (fun r24 =>
                                  bif r24 then
                                    c_71 ___B (fun r25 =>
                                      bif r25 then
                                        k (A.eq ___C 0)
                                      else
                                        k false)
                                  else
                                    k false)
                              else
                                bif (A.eq ___Kind 14) then
                                  c_71 ___A (fun r26 =>
                                    bif r26 then
                                      c_104 ___B (fun r27 =>
                                        bif r27 then
                                          k (A.eq ___C 0)
                                        else
                                          k false)
                                    else
                                      k false)
                                else
                                  k false
noncomputable def impl_OpOk (A : PM.Prims) : impl_OpOk_T := impl_OpOk_f A (impl_within A) (impl_isKey A) (impl_isValue A) (impl_isReg A) (impl_isCell A)
noncomputable def impl_OpOk_L (A : PM.Prims) (c_76 : impl_within_T) (c_71 : impl_isKey_T) (c_73 : impl_isValue_T) (c_104 : impl_isReg_T) (c_105 : impl_isCell_T) (n : Nat) : PM.Lam := fun cur σ K =>
  match cur, σ, K with
  | _, _, _ => none
noncomputable def impl_OpOk_E (A : PM.Prims) (c_76 : impl_within_T) (c_71 : impl_isKey_T) (c_73 : impl_isValue_T) (c_104 : impl_isReg_T) (c_105 : impl_isCell_T) : PM.Env := ⟨[(76, ⟨[], impl_within_w c_76⟩), (71, ⟨[], impl_isKey_w c_71⟩), (73, ⟨[], impl_isValue_w c_73⟩), (104, ⟨[], impl_isReg_w c_104⟩), (105, ⟨[], impl_isCell_w c_105⟩)], [], [], [(0, [1]), (1, [1, 4]), (2, [1, 4, 5]), (3, [2]), (4, [1, 4, 20]), (5, [1, 4, 20]), (6, [1, 4, 20]), (7, [2]), (8, [1, 4, 37]), (9, [2]), (10, [1, 4, 52]), (11, [2]), (12, [1, 4, 67]), (13, [2]), (14, [1, 4, 82]), (15, [1, 4, 82]), (16, [1, 4, 82]), (17, [2]), (18, [1, 4, 99]), (19, [1, 4, 99]), (20, [1, 4, 99]), (21, [2]), (22, [1, 4, 116]), (23, [2]), (24, [1, 4, 131]), (25, [2]), (26, [1, 146]), (27, [2]), (28, [2])], impl_OpOk_L A c_76 c_71 c_73 c_104 c_105 A.fuel⟩
theorem impl_OpOk_ok (A : PM.Prims) (c_76 : impl_within_T) (c_71 : impl_isKey_T) (c_73 : impl_isValue_T) (c_104 : impl_isReg_T) (c_105 : impl_isCell_T) (___Kind : Int) (___A : Int) (___B : Int) (___C : Int) (k : PM.V → PM.R) : PM.pfun A cx [] (impl_OpOk_E A c_76 c_71 c_73 c_104 c_105) Go.Proofs.Try.f81 [.agg [.int .i64 ___Kind, .int .i64 ___A, .int .i64 ___B, .int .i64 ___C]] k = impl_OpOk_f A c_76 c_71 c_73 c_104 c_105 ___Kind ___A ___B ___C (fun r0 => k (.bool r0)) := by kernel_rfl

theorem impl_OpOk_fn : PM.FnIs Try.prog 81 Try.f81 := .of Try.func81 (by kernel_rfl) (by kernel_rfl)
theorem impl_OpOk_g : PM.GOk Try.prog cx 81 ⟨[], impl_OpOk_w (impl_OpOk PM.std)⟩ := by
  refine ⟨impl_OpOk_fn.enter, fun _ ds k r h => ?_, fun hm => absurd rfl hm⟩
  change impl_OpOk_w (impl_OpOk PM.std) ds k = some r at h
  unfold impl_OpOk_w at h
  split at h
  · exact PM.pfun_ok (E := impl_OpOk_E PM.std (impl_within PM.std) (impl_isKey PM.std) (impl_isValue PM.std) (impl_isReg PM.std) (impl_isCell PM.std)) (L := fun n => impl_OpOk_L PM.std (impl_within PM.std) (impl_isKey PM.std) (impl_isValue PM.std) (impl_isReg PM.std) (impl_isCell PM.std) n) (N := PM.std.fuel) cx_ok (.cons impl_within_g (.cons impl_isKey_g (.cons impl_isValue_g (.cons impl_isReg_g (.cons impl_isCell_g .nil))))) mixed .nil impl_OpOk_fn (by kernel_rfl) ⟨rfl, fun _ _ _ => rfl, fun n cur σ K r h => by cases h⟩
      ((impl_OpOk_ok PM.std (impl_within PM.std) (impl_isKey PM.std) (impl_isValue PM.std) (impl_isReg PM.std) (impl_isCell PM.std) _ _ _ _ k).trans h)
  · cases h

abbrev impl_BoostMode_T := (Int) → (Int) → (Int) → (Int) → ((Int) → (Int) → PM.R) → PM.R
noncomputable def impl_BoostMode_w (c : impl_BoostMode_T) (ds : List PM.V) (k : PM.V → PM.R) : PM.R :=
  match ds with
  | [.agg [.int .i64 o_Kind, .int .i64 o_A, .int .i64 o_B, .int .i64 o_C]] => c o_Kind o_A o_B o_C (fun r0 r1 => k (.tup [.int .i64 r0, .int .i64 r1]))
  | _ => none
noncomputable def impl_BoostMode_f (A : PM.Prims) (c_81 : impl_OpOk_T) (o_Kind : Int) (o_A : Int) (o_B : Int) (o_C : Int) (k : (Int) → (Int) → PM.R) : PM.R :=
  c_81 o_Kind o_A o_B o_C (fun r1 =>
    bif (A.not r1) then
      k (-1) 0
    else
      bif (A.eq o_Kind 12) then
        k o_A 2
      else
        bif (A.eq o_Kind 14) then
          k o_A 2
        else
          bif (A.eq o_Kind 13) then
            k o_B 1
          else
            bif (A.eq o_Kind 15) then
              k 8 1
            else
              bif (A.eq o_Kind 16) then
                k 8 2
              else
                k (-1) 0)
noncomputable def impl_BoostMode (A : PM.Prims) : impl_BoostMode_T := impl_BoostMode_f A (impl_OpOk A)
noncomputable def impl_BoostMode_L (A : PM.Prims) (c_81 : impl_OpOk_T) (n : Nat) : PM.Lam := fun cur σ K =>
  match cur, σ, K with
  | _, _, _ => none
noncomputable def impl_BoostMode_E (A : PM.Prims) (c_81 : impl_OpOk_T) : PM.Env := ⟨[(81, ⟨[], impl_OpOk_w c_81⟩)], [], [], [(0, [1]), (1, [1, 6]), (2, [2, 3]), (3, [1, 8]), (4, [1, 8, 9]), (5, [1, 8, 9]), (6, [2, 3]), (7, [1, 8, 14]), (8, [2, 3]), (9, [8, 18]), (10, [2, 3]), (11, [20]), (12, [2, 3]), (13, [2, 3])], impl_BoostMode_L A c_81 A.fuel⟩
theorem impl_BoostMode_ok (A : PM.Prims) (c_81 : impl_OpOk_T) (o_Kind : Int) (o_A : Int) (o_B : Int) (o_C : Int) (k : PM.V → PM.R) : PM.pfun A cx [] (impl_BoostMode_E A c_81) Go.Proofs.Try.f37 [.agg [.int .i64 o_Kind, .int .i64 o_A, .int .i64 o_B, .int .i64 o_C]] k = impl_BoostMode_f A c_81 o_Kind o_A o_B o_C (fun r0 r1 => k (.tup [.int .i64 r0, .int .i64 r1])) := by kernel_rfl

theorem impl_BoostMode_fn : PM.FnIs Try.prog 37 Try.f37 := .of Try.func37 (by kernel_rfl) (by kernel_rfl)
theorem impl_BoostMode_g : PM.GOk Try.prog cx 37 ⟨[], impl_BoostMode_w (impl_BoostMode PM.std)⟩ := by
  refine ⟨impl_BoostMode_fn.enter, fun _ ds k r h => ?_, fun hm => absurd rfl hm⟩
  change impl_BoostMode_w (impl_BoostMode PM.std) ds k = some r at h
  unfold impl_BoostMode_w at h
  split at h
  · exact PM.pfun_ok (E := impl_BoostMode_E PM.std (impl_OpOk PM.std)) (L := fun n => impl_BoostMode_L PM.std (impl_OpOk PM.std) n) (N := PM.std.fuel) cx_ok (.cons impl_OpOk_g .nil) mixed .nil impl_BoostMode_fn (by kernel_rfl) ⟨rfl, fun _ _ _ => rfl, fun n cur σ K r h => by cases h⟩
      ((impl_BoostMode_ok PM.std (impl_OpOk PM.std) _ _ _ _ k).trans h)
  · cases h

abbrev laws_FnExactBoostMode_T := (Int) → (Int) → (Int) → (Int) → ((Bool) → PM.R) → PM.R
noncomputable def laws_FnExactBoostMode_w (c : laws_FnExactBoostMode_T) (ds : List PM.V) (k : PM.V → PM.R) : PM.R :=
  match ds with
  | [.agg [.int .i64 aO_Kind, .int .i64 aO_A, .int .i64 aO_B, .int .i64 aO_C]] => c aO_Kind aO_A aO_B aO_C (fun r0 => k (.bool r0))
  | _ => none
noncomputable def laws_FnExactBoostMode_f (A : PM.Prims) (c_36 : laws_toOp_T) (c_35 : spec_BoostMode_T) (c_37 : impl_BoostMode_T) (aO_Kind : Int) (aO_A : Int) (aO_B : Int) (aO_C : Int) (k : (Bool) → PM.R) : PM.R :=
  c_36 aO_Kind aO_A aO_B aO_C (fun r1 r2 r3 r4 =>
    c_35 r1 r2 r3 r4 (fun r5 r6 =>
      c_36 aO_Kind aO_A aO_B aO_C (fun r7 r8 r9 r10 =>
        c_37 r7 r8 r9 r10 (fun r11 r12 =>
          bif (A.not (A.eq r11 r5)) then
            k false
          else
            bif (A.not (A.eq r12 r6)) then
              k false
            else
              k true))))
noncomputable def laws_FnExactBoostMode (A : PM.Prims) : laws_FnExactBoostMode_T := laws_FnExactBoostMode_f A (laws_toOp A) (spec_BoostMode A) (impl_BoostMode A)
noncomputable def laws_FnExactBoostMode_L (A : PM.Prims) (c_36 : laws_toOp_T) (c_35 : spec_BoostMode_T) (c_37 : impl_BoostMode_T) (n : Nat) : PM.Lam := fun cur σ K =>
  match cur, σ, K with
  | _, _, _ => none
noncomputable def laws_FnExactBoostMode_E (A : PM.Prims) (c_36 : laws_toOp_T) (c_35 : spec_BoostMode_T) (c_37 : impl_BoostMode_T) : PM.Env := ⟨[(36, ⟨[], laws_toOp_w c_36⟩), (35, ⟨[], spec_BoostMode_w c_35⟩), (37, ⟨[], impl_BoostMode_w c_37⟩)], [], [], [(0, [1]), (1, [1, 3, 4]), (2, [3, 4, 5, 6]), (3, [26]), (4, [2]), (5, [2])], laws_FnExactBoostMode_L A c_36 c_35 c_37 A.fuel⟩
theorem laws_FnExactBoostMode_ok (A : PM.Prims) (c_36 : laws_toOp_T) (c_35 : spec_BoostMode_T) (c_37 : impl_BoostMode_T) (aO_Kind : Int) (aO_A : Int) (aO_B : Int) (aO_C : Int) (k : PM.V → PM.R) : PM.pfun A cx [] (laws_FnExactBoostMode_E A c_36 c_35 c_37) Go.Proofs.Try.f8 [.agg [.int .i64 aO_Kind, .int .i64 aO_A, .int .i64 aO_B, .int .i64 aO_C]] k = laws_FnExactBoostMode_f A c_36 c_35 c_37 aO_Kind aO_A aO_B aO_C (fun r0 => k (.bool r0)) := by kernel_rfl

theorem laws_FnExactBoostMode_fn : PM.FnIs Try.prog 8 Try.f8 := .of Try.func8 (by kernel_rfl) (by kernel_rfl)
theorem laws_FnExactBoostMode_g : PM.GOk Try.prog cx 8 ⟨[], laws_FnExactBoostMode_w (laws_FnExactBoostMode PM.std)⟩ := by
  refine ⟨laws_FnExactBoostMode_fn.enter, fun _ ds k r h => ?_, fun hm => absurd rfl hm⟩
  change laws_FnExactBoostMode_w (laws_FnExactBoostMode PM.std) ds k = some r at h
  unfold laws_FnExactBoostMode_w at h
  split at h
  · exact PM.pfun_ok (E := laws_FnExactBoostMode_E PM.std (laws_toOp PM.std) (spec_BoostMode PM.std) (impl_BoostMode PM.std)) (L := fun n => laws_FnExactBoostMode_L PM.std (laws_toOp PM.std) (spec_BoostMode PM.std) (impl_BoostMode PM.std) n) (N := PM.std.fuel) cx_ok (.cons laws_toOp_g (.cons spec_BoostMode_g (.cons impl_BoostMode_g .nil))) mixed .nil laws_FnExactBoostMode_fn (by kernel_rfl) ⟨rfl, fun _ _ _ => rfl, fun n cur σ K r h => by cases h⟩
      ((laws_FnExactBoostMode_ok PM.std (laws_toOp PM.std) (spec_BoostMode PM.std) (impl_BoostMode PM.std) _ _ _ _ k).trans h)
  · cases h

abbrev laws_szIntS_T := (List Int) → (Int) → ((Int) → PM.R) → PM.R
noncomputable def laws_szIntS_w (c : laws_szIntS_T) (ds : List PM.V) (k : PM.V → PM.R) : PM.R :=
  match ds with
  | [.arr (.ints 3 .i64 a), .int .i64 left] => c a left (fun r0 => k (.int .i64 r0))
  | _ => none
noncomputable def laws_szIntS_f (A : PM.Prims) (a : List Int) (left : Int) (k : (Int) → PM.R) : PM.R :=
  bif (A.lt (A.sub .i64 left (A.ilen a)) 0) then
    k (-1)
  else
    k (A.sub .i64 left (A.ilen a))
noncomputable def laws_szIntS (A : PM.Prims) : laws_szIntS_T := laws_szIntS_f A
noncomputable def laws_szIntS_L (A : PM.Prims) (n : Nat) : PM.Lam := fun cur σ K =>
  match cur, σ, K with
  | _, _, _ => none
noncomputable def laws_szIntS_E (A : PM.Prims) : PM.Env := ⟨[], [], [], [(0, [0, 1]), (1, [1]), (2, [1, 10]), (3, [4]), (4, [4])], laws_szIntS_L A A.fuel⟩
theorem laws_szIntS_ok (A : PM.Prims) (a : List Int) (left : Int) (k : PM.V → PM.R) : PM.pfun A cx [] (laws_szIntS_E A) Go.Proofs.Try.f82 [.arr (.ints 3 .i64 a), .int .i64 left] k = laws_szIntS_f A a left (fun r0 => k (.int .i64 r0)) := by kernel_rfl

theorem laws_szIntS_fn : PM.FnIs Try.prog 82 Try.f82 := .of Try.func82 (by kernel_rfl) (by kernel_rfl)
theorem laws_szIntS_g : PM.GOk Try.prog cx 82 ⟨[], laws_szIntS_w (laws_szIntS PM.std)⟩ := by
  refine ⟨laws_szIntS_fn.enter, fun _ ds k r h => ?_, fun hm => absurd rfl hm⟩
  change laws_szIntS_w (laws_szIntS PM.std) ds k = some r at h
  unfold laws_szIntS_w at h
  split at h
  · exact PM.pfun_ok (E := laws_szIntS_E PM.std) (L := fun n => laws_szIntS_L PM.std n) (N := PM.std.fuel) cx_ok .nil mixed .nil laws_szIntS_fn (by kernel_rfl) ⟨rfl, fun _ _ _ => rfl, fun n cur σ K r h => by cases h⟩
      ((laws_szIntS_ok PM.std _ _ k).trans h)
  · cases h

abbrev laws_szShelf_T := (List Int) → (Int) → (Int) → ((Int) → PM.R) → PM.R
noncomputable def laws_szShelf_w (c : laws_szShelf_T) (ds : List PM.V) (k : PM.V → PM.R) : PM.R :=
  match ds with
  | [.agg [.arr (.ints 3 .i64 a_Slots), .int .i64 a_Count], .int .i64 left] => c a_Slots a_Count left (fun r0 => k (.int .i64 r0))
  | _ => none
noncomputable def laws_szShelf_f (A : PM.Prims) (c_82 : laws_szIntS_T) (a_Slots : List Int) (a_Count : Int) (left : Int) (k : (Int) → PM.R) : PM.R :=
  c_82 a_Slots left (fun r1 =>
    bif (A.lt r1 0) then
      k (-1)
    else
      k r1)
noncomputable def laws_szShelf (A : PM.Prims) : laws_szShelf_T := laws_szShelf_f A (laws_szIntS A)
noncomputable def laws_szShelf_L (A : PM.Prims) (c_82 : laws_szIntS_T) (n : Nat) : PM.Lam := fun cur σ K =>
  match cur, σ, K with
  | _, _, _ => none
noncomputable def laws_szShelf_E (A : PM.Prims) (c_82 : laws_szIntS_T) : PM.Env := ⟨[(82, ⟨[], laws_szIntS_w c_82⟩)], [], [], [(0, [1, 2]), (1, [1]), (2, [1, 10]), (3, [4]), (4, [4])], laws_szShelf_L A c_82 A.fuel⟩
theorem laws_szShelf_ok (A : PM.Prims) (c_82 : laws_szIntS_T) (a_Slots : List Int) (a_Count : Int) (left : Int) (k : PM.V → PM.R) : PM.pfun A cx [] (laws_szShelf_E A c_82) Go.Proofs.Try.f38 [.agg [.arr (.ints 3 .i64 a_Slots), .int .i64 a_Count], .int .i64 left] k = laws_szShelf_f A c_82 a_Slots a_Count left (fun r0 => k (.int .i64 r0)) := by kernel_rfl

theorem laws_szShelf_fn : PM.FnIs Try.prog 38 Try.f38 := .of Try.func38 (by kernel_rfl) (by kernel_rfl)
theorem laws_szShelf_g : PM.GOk Try.prog cx 38 ⟨[], laws_szShelf_w (laws_szShelf PM.std)⟩ := by
  refine ⟨laws_szShelf_fn.enter, fun _ ds k r h => ?_, fun hm => absurd rfl hm⟩
  change laws_szShelf_w (laws_szShelf PM.std) ds k = some r at h
  unfold laws_szShelf_w at h
  split at h
  · exact PM.pfun_ok (E := laws_szShelf_E PM.std (laws_szIntS PM.std)) (L := fun n => laws_szShelf_L PM.std (laws_szIntS PM.std) n) (N := PM.std.fuel) cx_ok (.cons laws_szIntS_g .nil) mixed .nil laws_szShelf_fn (by kernel_rfl) ⟨rfl, fun _ _ _ => rfl, fun n cur σ K r h => by cases h⟩
      ((laws_szShelf_ok PM.std (laws_szIntS PM.std) _ _ _ k).trans h)
  · cases h

abbrev laws_toShelf_T := (List Int) → (Int) → ((List Int) → (Int) → PM.R) → PM.R
noncomputable def laws_toShelf_w (c : laws_toShelf_T) (ds : List PM.V) (k : PM.V → PM.R) : PM.R :=
  match ds with
  | [.agg [.arr (.ints 3 .i64 a_Slots), .int .i64 a_Count]] => c a_Slots a_Count (fun r0_Slots r0_Count => k (.agg [.arr (.ints 3 .i64 r0_Slots), .int .i64 r0_Count]))
  | _ => none
noncomputable def laws_toShelf_f (A : PM.Prims) (c_31 : laws_toIntS_T) (a_Slots : List Int) (a_Count : Int) (k : (List Int) → (Int) → PM.R) : PM.R :=
  c_31 a_Slots (fun r1 =>
    k r1 a_Count)
noncomputable def laws_toShelf (A : PM.Prims) : laws_toShelf_T := laws_toShelf_f A (laws_toIntS A)
noncomputable def laws_toShelf_L (A : PM.Prims) (c_31 : laws_toIntS_T) (n : Nat) : PM.Lam := fun cur σ K =>
  match cur, σ, K with
  | _, _, _ => none
noncomputable def laws_toShelf_E (A : PM.Prims) (c_31 : laws_toIntS_T) : PM.Env := ⟨[(31, ⟨[], laws_toIntS_w c_31⟩)], [], [], [(0, [1, 2]), (1, [1, 2, 3]), (2, [1, 2, 3]), (3, [2, 3]), (4, [2])], laws_toShelf_L A c_31 A.fuel⟩
theorem laws_toShelf_ok (A : PM.Prims) (c_31 : laws_toIntS_T) (a_Slots : List Int) (a_Count : Int) (k : PM.V → PM.R) : PM.pfun A cx [] (laws_toShelf_E A c_31) Go.Proofs.Try.f40 [.agg [.arr (.ints 3 .i64 a_Slots), .int .i64 a_Count]] k = laws_toShelf_f A c_31 a_Slots a_Count (fun r0_Slots r0_Count => k (.agg [.arr (.ints 3 .i64 r0_Slots), .int .i64 r0_Count])) := by kernel_rfl

theorem laws_toShelf_fn : PM.FnIs Try.prog 40 Try.f40 := .of Try.func40 (by kernel_rfl) (by kernel_rfl)
theorem laws_toShelf_g : PM.GOk Try.prog cx 40 ⟨[], laws_toShelf_w (laws_toShelf PM.std)⟩ := by
  refine ⟨laws_toShelf_fn.enter, fun _ ds k r h => ?_, fun hm => absurd rfl hm⟩
  change laws_toShelf_w (laws_toShelf PM.std) ds k = some r at h
  unfold laws_toShelf_w at h
  split at h
  · exact PM.pfun_ok (E := laws_toShelf_E PM.std (laws_toIntS PM.std)) (L := fun n => laws_toShelf_L PM.std (laws_toIntS PM.std) n) (N := PM.std.fuel) cx_ok (.cons laws_toIntS_g .nil) mixed .nil laws_toShelf_fn (by kernel_rfl) ⟨rfl, fun _ _ _ => rfl, fun n cur σ K r h => by cases h⟩
      ((laws_toShelf_ok PM.std (laws_toIntS PM.std) _ _ k).trans h)
  · cases h

abbrev spec_ShelfOk_T := (List Int) → (Int) → ((Bool) → PM.R) → PM.R
noncomputable def spec_ShelfOk_w (c : spec_ShelfOk_T) (ds : List PM.V) (k : PM.V → PM.R) : PM.R :=
  match ds with
  | [.agg [.arr (.ints 3 .i64 s_Slots), .int .i64 s_Count]] => c s_Slots s_Count (fun r0 => k (.bool r0))
  | _ => none
noncomputable def spec_ShelfOk_f (A : PM.Prims) (c_72 : spec_l3Val_T) (c_30 : spec_SlotsOk_T) (s_Slots : List Int) (s_Count : Int) (k : (Bool) → PM.R) : PM.R :=
  c_30 s_Slots (fun r1 =>
    bif r1 then
      c_72 s_Count (fun r2 =>
        k r2)
    else
      k false)
noncomputable def spec_ShelfOk (A : PM.Prims) : spec_ShelfOk_T := spec_ShelfOk_f A (spec_l3Val A) (spec_SlotsOk A)
noncomputable def spec_ShelfOk_L (A : PM.Prims) (c_72 : spec_l3Val_T) (c_30 : spec_SlotsOk_T) (n : Nat) : PM.Lam := fun cur σ K =>
  match cur, σ, K with
  | _, _, _ => none
noncomputable def spec_ShelfOk_E (A : PM.Prims) (c_72 : spec_l3Val_T) (c_30 : spec_SlotsOk_T) : PM.Env := ⟨[(72, ⟨[], spec_l3Val_w c_72⟩), (30, ⟨[], spec_SlotsOk_w c_30⟩)], [], [], [(0, [1]), (1, [2])], spec_ShelfOk_L A c_72 c_30 A.fuel⟩
theorem spec_ShelfOk_ok (A : PM.Prims) (c_72 : spec_l3Val_T) (c_30 : spec_SlotsOk_T) (s_Slots : List Int) (s_Count : Int) (k : PM.V → PM.R) : PM.pfun A cx [] (spec_ShelfOk_E A c_72 c_30) Go.Proofs.Try.f39 [.agg [.arr (.ints 3 .i64 s_Slots), .int .i64 s_Count]] k = spec_ShelfOk_f A c_72 c_30 s_Slots s_Count (fun r0 => k (.bool r0)) := by kernel_rfl

theorem spec_ShelfOk_fn : PM.FnIs Try.prog 39 Try.f39 := .of Try.func39 (by kernel_rfl) (by kernel_rfl)
theorem spec_ShelfOk_g : PM.GOk Try.prog cx 39 ⟨[], spec_ShelfOk_w (spec_ShelfOk PM.std)⟩ := by
  refine ⟨spec_ShelfOk_fn.enter, fun _ ds k r h => ?_, fun hm => absurd rfl hm⟩
  change spec_ShelfOk_w (spec_ShelfOk PM.std) ds k = some r at h
  unfold spec_ShelfOk_w at h
  split at h
  · exact PM.pfun_ok (E := spec_ShelfOk_E PM.std (spec_l3Val PM.std) (spec_SlotsOk PM.std)) (L := fun n => spec_ShelfOk_L PM.std (spec_l3Val PM.std) (spec_SlotsOk PM.std) n) (N := PM.std.fuel) cx_ok (.cons spec_l3Val_g (.cons spec_SlotsOk_g .nil)) mixed .nil spec_ShelfOk_fn (by kernel_rfl) ⟨rfl, fun _ _ _ => rfl, fun n cur σ K r h => by cases h⟩
      ((spec_ShelfOk_ok PM.std (spec_l3Val PM.std) (spec_SlotsOk PM.std) _ _ k).trans h)
  · cases h

abbrev impl_ShelfOk_T := (List Int) → (Int) → ((Bool) → PM.R) → PM.R
noncomputable def impl_ShelfOk_w (c : impl_ShelfOk_T) (ds : List PM.V) (k : PM.V → PM.R) : PM.R :=
  match ds with
  | [.agg [.arr (.ints 3 .i64 s_Slots), .int .i64 s_Count]] => c s_Slots s_Count (fun r0 => k (.bool r0))
  | _ => none
noncomputable def impl_ShelfOk_f (A : PM.Prims) (c_73 : impl_isValue_T) (c_32 : impl_SlotsOk_T) (s_Slots : List Int) (s_Count : Int) (k : (Bool) → PM.R) : PM.R :=
  c_32 s_Slots (fun r1 =>
    bif r1 then
      c_73 s_Count (fun r2 =>
        k r2)
    else
      k false)
noncomputable def impl_ShelfOk (A : PM.Prims) : impl_ShelfOk_T := impl_ShelfOk_f A (impl_isValue A) (impl_SlotsOk A)
noncomputable def impl_ShelfOk_L (A : PM.Prims) (c_73 : impl_isValue_T) (c_32 : impl_SlotsOk_T) (n : Nat) : PM.Lam := fun cur σ K =>
  match cur, σ, K with
  | _, _, _ => none
noncomputable def impl_ShelfOk_E (A : PM.Prims) (c_73 : impl_isValue_T) (c_32 : impl_SlotsOk_T) : PM.Env := ⟨[(73, ⟨[], impl_isValue_w c_73⟩), (32, ⟨[], impl_SlotsOk_w c_32⟩)], [], [], [(0, [1]), (1, [2])], impl_ShelfOk_L A c_73 c_32 A.fuel⟩
theorem impl_ShelfOk_ok (A : PM.Prims) (c_73 : impl_isValue_T) (c_32 : impl_SlotsOk_T) (s_Slots : List Int) (s_Count : Int) (k : PM.V → PM.R) : PM.pfun A cx [] (impl_ShelfOk_E A c_73 c_32) Go.Proofs.Try.f41 [.agg [.arr (.ints 3 .i64 s_Slots), .int .i64 s_Count]] k = impl_ShelfOk_f A c_73 c_32 s_Slots s_Count (fun r0 => k (.bool r0)) := by kernel_rfl

theorem impl_ShelfOk_fn : PM.FnIs Try.prog 41 Try.f41 := .of Try.func41 (by kernel_rfl) (by kernel_rfl)
theorem impl_ShelfOk_g : PM.GOk Try.prog cx 41 ⟨[], impl_ShelfOk_w (impl_ShelfOk PM.std)⟩ := by
  refine ⟨impl_ShelfOk_fn.enter, fun _ ds k r h => ?_, fun hm => absurd rfl hm⟩
  change impl_ShelfOk_w (impl_ShelfOk PM.std) ds k = some r at h
  unfold impl_ShelfOk_w at h
  split at h
  · exact PM.pfun_ok (E := impl_ShelfOk_E PM.std (impl_isValue PM.std) (impl_SlotsOk PM.std)) (L := fun n => impl_ShelfOk_L PM.std (impl_isValue PM.std) (impl_SlotsOk PM.std) n) (N := PM.std.fuel) cx_ok (.cons impl_isValue_g (.cons impl_SlotsOk_g .nil)) mixed .nil impl_ShelfOk_fn (by kernel_rfl) ⟨rfl, fun _ _ _ => rfl, fun n cur σ K r h => by cases h⟩
      ((impl_ShelfOk_ok PM.std (impl_isValue PM.std) (impl_SlotsOk PM.std) _ _ k).trans h)
  · cases h

abbrev laws_eqShelf_T := (List Int) → (Int) → (List Int) → (Int) → ((Bool) → PM.R) → PM.R
noncomputable def laws_eqShelf_w (c : laws_eqShelf_T) (ds : List PM.V) (k : PM.V → PM.R) : PM.R :=
  match ds with
  | [.agg [.arr (.ints 3 .i64 a_Slots), .int .i64 a_Count], .agg [.arr (.ints 3 .i64 b_Slots), .int .i64 b_Count]] => c a_Slots a_Count b_Slots b_Count (fun r0 => k (.bool r0))
  | _ => none
noncomputable def laws_eqShelf_f (A : PM.Prims) (c_24 : laws_eqIntS_T) (a_Slots : List Int) (a_Count : Int) (b_Slots : List Int) (b_Count : Int) (k : (Bool) → PM.R) : PM.R :=
  c_24 a_Slots b_Slots (fun r1 =>
    bif (A.not r1) then
      k false
    else
      bif (A.not (A.eq a_Count b_Count)) then
        k false
      else
        k true)
noncomputable def laws_eqShelf (A : PM.Prims) : laws_eqShelf_T := laws_eqShelf_f A (laws_eqIntS A)
noncomputable def laws_eqShelf_L (A : PM.Prims) (c_24 : laws_eqIntS_T) (n : Nat) : PM.Lam := fun cur σ K =>
  match cur, σ, K with
  | _, _, _ => none
noncomputable def laws_eqShelf_E (A : PM.Prims) (c_24 : laws_eqIntS_T) : PM.Env := ⟨[(24, ⟨[], laws_eqIntS_w c_24⟩)], [], [], [(0, [2, 3]), (1, [2, 3, 10]), (2, [4]), (3, [15]), (4, [4]), (5, [4])], laws_eqShelf_L A c_24 A.fuel⟩
theorem laws_eqShelf_ok (A : PM.Prims) (c_24 : laws_eqIntS_T) (a_Slots : List Int) (a_Count : Int) (b_Slots : List Int) (b_Count : Int) (k : PM.V → PM.R) : PM.pfun A cx [] (laws_eqShelf_E A c_24) Go.Proofs.Try.f42 [.agg [.arr (.ints 3 .i64 a_Slots), .int .i64 a_Count], .agg [.arr (.ints 3 .i64 b_Slots), .int .i64 b_Count]] k = laws_eqShelf_f A c_24 a_Slots a_Count b_Slots b_Count (fun r0 => k (.bool r0)) := by kernel_rfl

theorem laws_eqShelf_fn : PM.FnIs Try.prog 42 Try.f42 := .of Try.func42 (by kernel_rfl) (by kernel_rfl)
theorem laws_eqShelf_g : PM.GOk Try.prog cx 42 ⟨[], laws_eqShelf_w (laws_eqShelf PM.std)⟩ := by
  refine ⟨laws_eqShelf_fn.enter, fun _ ds k r h => ?_, fun hm => absurd rfl hm⟩
  change laws_eqShelf_w (laws_eqShelf PM.std) ds k = some r at h
  unfold laws_eqShelf_w at h
  split at h
  · exact PM.pfun_ok (E := laws_eqShelf_E PM.std (laws_eqIntS PM.std)) (L := fun n => laws_eqShelf_L PM.std (laws_eqIntS PM.std) n) (N := PM.std.fuel) cx_ok (.cons laws_eqIntS_g .nil) mixed .nil laws_eqShelf_fn (by kernel_rfl) ⟨rfl, fun _ _ _ => rfl, fun n cur σ K r h => by cases h⟩
      ((laws_eqShelf_ok PM.std (laws_eqIntS PM.std) _ _ _ _ k).trans h)
  · cases h

abbrev laws_FnExactShelfOk_T := (List Int) → (Int) → ((Bool) → PM.R) → PM.R
noncomputable def laws_FnExactShelfOk_w (c : laws_FnExactShelfOk_T) (ds : List PM.V) (k : PM.V → PM.R) : PM.R :=
  match ds with
  | [.agg [.arr (.ints 3 .i64 aS_Slots), .int .i64 aS_Count]] => c aS_Slots aS_Count (fun r0 => k (.bool r0))
  | _ => none
noncomputable def laws_FnExactShelfOk_f (A : PM.Prims) (c_38 : laws_szShelf_T) (c_40 : laws_toShelf_T) (c_39 : spec_ShelfOk_T) (c_41 : impl_ShelfOk_T) (c_42 : laws_eqShelf_T) (aS_Slots : List Int) (aS_Count : Int) (k : (Bool) → PM.R) : PM.R :=
  c_38 aS_Slots aS_Count 1048576 (fun r1 =>
    bif (A.lt r1 0) then
      k true
    else
      c_40 aS_Slots aS_Count (fun r2 r3 =>
        c_39 r2 r3 (fun r4 =>
          c_40 aS_Slots aS_Count (fun r5 r6 =>
            c_41 r5 r6 (fun r7 =>
              bif (A.not (A.beq r7 r4)) then
                k false
              else
                c_40 aS_Slots aS_Count (fun r8 r9 =>
                  c_42 r5 r6 r8 r9 (fun r10 =>
                    bif (A.not r10) then
                      k false
                    else
                      k true)))))))
noncomputable def laws_FnExactShelfOk (A : PM.Prims) : laws_FnExactShelfOk_T := laws_FnExactShelfOk_f A (laws_szShelf A) (laws_toShelf A) (spec_ShelfOk A) (impl_ShelfOk A) (laws_eqShelf A)
noncomputable def laws_FnExactShelfOk_L (A : PM.Prims) (c_38 : laws_szShelf_T) (c_40 : laws_toShelf_T) (c_39 : spec_ShelfOk_T) (c_41 : impl_ShelfOk_T) (c_42 : laws_eqShelf_T) (n : Nat) : PM.Lam := fun cur σ K =>
  match cur, σ, K with
  | _, _, _ => none
noncomputable def laws_FnExactShelfOk_E (A : PM.Prims) (c_38 : laws_szShelf_T) (c_40 : laws_toShelf_T) (c_39 : spec_ShelfOk_T) (c_41 : impl_ShelfOk_T) (c_42 : laws_eqShelf_T) : PM.Env := ⟨[(38, ⟨[], laws_szShelf_w c_38⟩), (40, ⟨[], laws_toShelf_w c_40⟩), (39, ⟨[], spec_ShelfOk_w c_39⟩), (41, ⟨[], impl_ShelfOk_w c_41⟩), (42, ⟨[], laws_eqShelf_w c_42⟩)], [], [], [(0, [1]), (1, [1, 3]), (2, [1, 3]), (3, [1, 11]), (4, [2]), (5, [1, 4]), (6, [1, 4, 5]), (7, [1, 4, 5, 6]), (8, [1, 5, 21]), (9, [2]), (10, [26]), (11, [2]), (12, [2])], laws_FnExactShelfOk_L A c_38 c_40 c_39 c_41 c_42 A.fuel⟩
theorem laws_FnExactShelfOk_ok (A : PM.Prims) (c_38 : laws_szShelf_T) (c_40 : laws_toShelf_T) (c_39 : spec_ShelfOk_T) (c_41 : impl_ShelfOk_T) (c_42 : laws_eqShelf_T) (aS_Slots : List Int) (aS_Count : Int) (k : PM.V → PM.R) : PM.pfun A cx [] (laws_FnExactShelfOk_E A c_38 c_40 c_39 c_41 c_42) Go.Proofs.Try.f9 [.agg [.arr (.ints 3 .i64 aS_Slots), .int .i64 aS_Count]] k = laws_FnExactShelfOk_f A c_38 c_40 c_39 c_41 c_42 aS_Slots aS_Count (fun r0 => k (.bool r0)) := by kernel_rfl

theorem laws_FnExactShelfOk_fn : PM.FnIs Try.prog 9 Try.f9 := .of Try.func9 (by kernel_rfl) (by kernel_rfl)
theorem laws_FnExactShelfOk_g : PM.GOk Try.prog cx 9 ⟨[], laws_FnExactShelfOk_w (laws_FnExactShelfOk PM.std)⟩ := by
  refine ⟨laws_FnExactShelfOk_fn.enter, fun _ ds k r h => ?_, fun hm => absurd rfl hm⟩
  change laws_FnExactShelfOk_w (laws_FnExactShelfOk PM.std) ds k = some r at h
  unfold laws_FnExactShelfOk_w at h
  split at h
  · exact PM.pfun_ok (E := laws_FnExactShelfOk_E PM.std (laws_szShelf PM.std) (laws_toShelf PM.std) (spec_ShelfOk PM.std) (impl_ShelfOk PM.std) (laws_eqShelf PM.std)) (L := fun n => laws_FnExactShelfOk_L PM.std (laws_szShelf PM.std) (laws_toShelf PM.std) (spec_ShelfOk PM.std) (impl_ShelfOk PM.std) (laws_eqShelf PM.std) n) (N := PM.std.fuel) cx_ok (.cons laws_szShelf_g (.cons laws_toShelf_g (.cons spec_ShelfOk_g (.cons impl_ShelfOk_g (.cons laws_eqShelf_g .nil))))) mixed .nil laws_FnExactShelfOk_fn (by kernel_rfl) ⟨rfl, fun _ _ _ => rfl, fun n cur σ K r h => by cases h⟩
      ((laws_FnExactShelfOk_ok PM.std (laws_szShelf PM.std) (laws_toShelf PM.std) (spec_ShelfOk PM.std) (impl_ShelfOk PM.std) (laws_eqShelf PM.std) _ _ k).trans h)
  · cases h

abbrev spec_l15Ints_T := (List Int) → ((List Int) → PM.R) → PM.R
noncomputable def spec_l15Ints_w (c : spec_l15Ints_T) (ds : List PM.V) (k : PM.V → PM.R) : PM.R :=
  match ds with
  | [.arr (.ints 3 .i64 l)] => c l (fun r0 => k (.arr (.ints 3 .i64 r0)))
  | _ => none
noncomputable def spec_l15Ints_f (A : PM.Prims) (l : List Int) (k : (List Int) → PM.R) : PM.R :=
  bif (A.room (A.ilen []) (A.ilen l)) then
    k (A.iapp [] l)
  else
    none
noncomputable def spec_l15Ints (A : PM.Prims) : spec_l15Ints_T := spec_l15Ints_f A
noncomputable def spec_l15Ints_L (A : PM.Prims) (n : Nat) : PM.Lam := fun cur σ K =>
  match cur, σ, K with
  | _, _, _ => none
noncomputable def spec_l15Ints_E (A : PM.Prims) : PM.Env := ⟨[], [], [], [(0, [0]), (1, [2])], spec_l15Ints_L A A.fuel⟩
theorem spec_l15Ints_ok (A : PM.Prims) (l : List Int) (k : PM.V → PM.R) : PM.pfun A cx [] (spec_l15Ints_E A) Go.Proofs.Try.f83 [.arr (.ints 3 .i64 l)] k = spec_l15Ints_f A l (fun r0 => k (.arr (.ints 3 .i64 r0))) := by kernel_rfl

theorem spec_l15Ints_fn : PM.FnIs Try.prog 83 Try.f83 := .of Try.func83 (by kernel_rfl) (by kernel_rfl)
theorem spec_l15Ints_g : PM.GOk Try.prog cx 83 ⟨[], spec_l15Ints_w (spec_l15Ints PM.std)⟩ := by
  refine ⟨spec_l15Ints_fn.enter, fun _ ds k r h => ?_, fun hm => absurd rfl hm⟩
  change spec_l15Ints_w (spec_l15Ints PM.std) ds k = some r at h
  unfold spec_l15Ints_w at h
  split at h
  · exact PM.pfun_ok (E := spec_l15Ints_E PM.std) (L := fun n => spec_l15Ints_L PM.std n) (N := PM.std.fuel) cx_ok .nil mixed .nil spec_l15Ints_fn (by kernel_rfl) ⟨rfl, fun _ _ _ => rfl, fun n cur σ K r h => by cases h⟩
      ((spec_l15Ints_ok PM.std _ k).trans h)
  · cases h

abbrev spec_SlotDrop_T := (List Int) → (Int) → ((List Int) → (Int) → (Bool) → PM.R) → PM.R
noncomputable def spec_SlotDrop_w (c : spec_SlotDrop_T) (ds : List PM.V) (k : PM.V → PM.R) : PM.R :=
  match ds with
  | [.arr (.ints 3 .i64 l), .int .i64 key] => c l key (fun r0 r1 r2 => k (.tup [.arr (.ints 3 .i64 r0), .int .i64 r1, .bool r2]))
  | _ => none
noncomputable def spec_SlotDrop_f (A : PM.Prims) (c_70 : spec_l15Key_T) (c_75 : spec_l15Slot_T) (c_30 : spec_SlotsOk_T) (c_79 : spec_l15At_T) (c_83 : spec_l15Ints_T) (l : List Int) (key : Int) (k : (List Int) → (Int) → (Bool) → PM.R) : PM.R :=
  c_83 l (fun r1 =>
    c_30 l (fun r2 =>
      bif (A.not r2) then
        k r1 0 false
      else
        c_70 key (fun r3 =>
          bif (A.not r3) then
            k r1 0 false
          else
            c_79 l key (fun r4 =>
              bif (A.lt r4 0) then
                k r1 0 true
              else
                bif (A.inb r4 (A.ilen l)) then
                  c_75 (A.iget l r4) (fun r5 r6 =>
                    bif (A.inb r4 (A.ilen r1)) then
                      k (A.iset r1 r4 0) (A.add .i64 1 r6) true
                    else
                      none)
                else
                  none))))
noncomputable def spec_SlotDrop (A : PM.Prims) : spec_SlotDrop_T := spec_SlotDrop_f A (spec_l15Key A) (spec_l15Slot A) (spec_SlotsOk A) (spec_l15At A) (spec_l15Ints A)
noncomputable def spec_SlotDrop_L (A : PM.Prims) (c_70 : spec_l15Key_T) (c_75 : spec_l15Slot_T) (c_30 : spec_SlotsOk_T) (c_79 : spec_l15At_T) (c_83 : spec_l15Ints_T) (n : Nat) : PM.Lam := fun cur σ K =>
  match cur, σ, K with
  | _, _, _ => none
noncomputable def spec_SlotDrop_E (A : PM.Prims) (c_70 : spec_l15Key_T) (c_75 : spec_l15Slot_T) (c_30 : spec_SlotsOk_T) (c_79 : spec_l15At_T) (c_83 : spec_l15Ints_T) : PM.Env := ⟨[(70, ⟨[], spec_l15Key_w c_70⟩), (75, ⟨[], spec_l15Slot_w c_75⟩), (30, ⟨[], spec_SlotsOk_w c_30⟩), (79, ⟨[], spec_l15At_w c_79⟩), (83, ⟨[], spec_l15Ints_w c_83⟩)], [], [], [(0, [0, 1]), (1, [0, 1, 7]), (2, [0, 1, 7, 20]), (3, [4, 5, 6]), (4, [0, 7, 8]), (5, [0, 7, 8, 26]), (6, [4, 5, 6]), (7, [7, 8, 10]), (8, [7, 10]), (9, [4, 5, 6])], spec_SlotDrop_L A c_70 c_75 c_30 c_79 c_83 A.fuel⟩
theorem spec_SlotDrop_ok (A : PM.Prims) (c_70 : spec_l15Key_T) (c_75 : spec_l15Slot_T) (c_30 : spec_SlotsOk_T) (c_79 : spec_l15At_T) (c_83 : spec_l15Ints_T) (l : List Int) (key : Int) (k : PM.V → PM.R) : PM.pfun A cx [] (spec_SlotDrop_E A c_70 c_75 c_30 c_79 c_83) Go.Proofs.Try.f43 [.arr (.ints 3 .i64 l), .int .i64 key] k = spec_SlotDrop_f A c_70 c_75 c_30 c_79 c_83 l key (fun r0 r1 r2 => k (.tup [.arr (.ints 3 .i64 r0), .int .i64 r1, .bool r2])) := by kernel_rfl

theorem spec_SlotDrop_fn : PM.FnIs Try.prog 43 Try.f43 := .of Try.func43 (by kernel_rfl) (by kernel_rfl)
theorem spec_SlotDrop_g : PM.GOk Try.prog cx 43 ⟨[], spec_SlotDrop_w (spec_SlotDrop PM.std)⟩ := by
  refine ⟨spec_SlotDrop_fn.enter, fun _ ds k r h => ?_, fun hm => absurd rfl hm⟩
  change spec_SlotDrop_w (spec_SlotDrop PM.std) ds k = some r at h
  unfold spec_SlotDrop_w at h
  split at h
  · exact PM.pfun_ok (E := spec_SlotDrop_E PM.std (spec_l15Key PM.std) (spec_l15Slot PM.std) (spec_SlotsOk PM.std) (spec_l15At PM.std) (spec_l15Ints PM.std)) (L := fun n => spec_SlotDrop_L PM.std (spec_l15Key PM.std) (spec_l15Slot PM.std) (spec_SlotsOk PM.std) (spec_l15At PM.std) (spec_l15Ints PM.std) n) (N := PM.std.fuel) cx_ok (.cons spec_l15Key_g (.cons spec_l15Slot_g (.cons spec_SlotsOk_g (.cons spec_l15At_g (.cons spec_l15Ints_g .nil))))) mixed .nil spec_SlotDrop_fn (by kernel_rfl) ⟨rfl, fun _ _ _ => rfl, fun n cur σ K r h => by cases h⟩
      ((spec_SlotDrop_ok PM.std (spec_l15Key PM.std) (spec_l15Slot PM.std) (spec_SlotsOk PM.std) (spec_l15At PM.std) (spec_l15Ints PM.std) _ _ k).trans h)
  · cases h

abbrev impl_copyInts_T := (List Int) → ((List Int) → PM.R) → PM.R
noncomputable def impl_copyInts_w (c : impl_copyInts_T) (ds : List PM.V) (k : PM.V → PM.R) : PM.R :=
  match ds with
  | [.arr (.ints 3 .i64 l)] => c l (fun r0 => k (.arr (.ints 3 .i64 r0)))
  | _ => none
noncomputable def impl_copyInts_f (A : PM.Prims) (l : List Int) (k : (List Int) → PM.R) : PM.R :=
  bif (A.room (A.ilen []) (A.ilen l)) then
    k (A.iapp [] l)
  else
    none
noncomputable def impl_copyInts (A : PM.Prims) : impl_copyInts_T := impl_copyInts_f A
noncomputable def impl_copyInts_L (A : PM.Prims) (n : Nat) : PM.Lam := fun cur σ K =>
  match cur, σ, K with
  | _, _, _ => none
noncomputable def impl_copyInts_E (A : PM.Prims) : PM.Env := ⟨[], [], [], [(0, [0]), (1, [2])], impl_copyInts_L A A.fuel⟩
theorem impl_copyInts_ok (A : PM.Prims) (l : List Int) (k : PM.V → PM.R) : PM.pfun A cx [] (impl_copyInts_E A) Go.Proofs.Try.f84 [.arr (.ints 3 .i64 l)] k = impl_copyInts_f A l (fun r0 => k (.arr (.ints 3 .i64 r0))) := by kernel_rfl

theorem impl_copyInts_fn : PM.FnIs Try.prog 84 Try.f84 := .of Try.func84 (by kernel_rfl) (by kernel_rfl)
theorem impl_copyInts_g : PM.GOk Try.prog cx 84 ⟨[], impl_copyInts_w (impl_copyInts PM.std)⟩ := by
  refine ⟨impl_copyInts_fn.enter, fun _ ds k r h => ?_, fun hm => absurd rfl hm⟩
  change impl_copyInts_w (impl_copyInts PM.std) ds k = some r at h
  unfold impl_copyInts_w at h
  split at h
  · exact PM.pfun_ok (E := impl_copyInts_E PM.std) (L := fun n => impl_copyInts_L PM.std n) (N := PM.std.fuel) cx_ok .nil mixed .nil impl_copyInts_fn (by kernel_rfl) ⟨rfl, fun _ _ _ => rfl, fun n cur σ K r h => by cases h⟩
      ((impl_copyInts_ok PM.std _ k).trans h)
  · cases h

abbrev impl_SlotDrop_T := (List Int) → (Int) → ((List Int) → (Int) → (Bool) → PM.R) → PM.R
noncomputable def impl_SlotDrop_w (c : impl_SlotDrop_T) (ds : List PM.V) (k : PM.V → PM.R) : PM.R :=
  match ds with
  | [.arr (.ints 3 .i64 l), .int .i64 key] => c l key (fun r0 r1 r2 => k (.tup [.arr (.ints 3 .i64 r0), .int .i64 r1, .bool r2]))
  | _ => none
noncomputable def impl_SlotDrop_f (A : PM.Prims) (c_71 : impl_isKey_T) (c_32 : impl_SlotsOk_T) (c_80 : impl_find_T) (c_34 : impl_SlotGet_T) (c_84 : impl_copyInts_T) (l : List Int) (key : Int) (k : (List Int) → (Int) → (Bool) → PM.R) : PM.R :=
  c_84 l (fun r1 =>
    c_32 l (fun r2 =>
      bif (A.not r2) then
        k r1 0 false
      else
        c_71 key (fun r3 =>
          bif (A.not r3) then
            k r1 0 false
          else
            c_80 l key (fun r4 =>
              bif (A.lt r4 0) then
                k r1 0 true
              else
                c_34 l key (fun r5 r6 =>
                  bif (A.inb r4 (A.ilen r1)) then
                    k (A.iset r1 r4 0) (A.add .i64 r5 1) true
                  else
                    none)))))
noncomputable def impl_SlotDrop (A : PM.Prims) : impl_SlotDrop_T := impl_SlotDrop_f A (impl_isKey A) (impl_SlotsOk A) (impl_find A) (impl_SlotGet A) (impl_copyInts A)
noncomputable def impl_SlotDrop_L (A : PM.Prims) (c_71 : impl_isKey_T) (c_32 : impl_SlotsOk_T) (c_80 : impl_find_T) (c_34 : impl_SlotGet_T) (c_84 : impl_copyInts_T) (n : Nat) : PM.Lam := fun cur σ K =>
  match cur, σ, K with
  | _, _, _ => none
noncomputable def impl_SlotDrop_E (A : PM.Prims) (c_71 : impl_isKey_T) (c_32 : impl_SlotsOk_T) (c_80 : impl_find_T) (c_34 : impl_SlotGet_T) (c_84 : impl_copyInts_T) : PM.Env := ⟨[(71, ⟨[], impl_isKey_w c_71⟩), (32, ⟨[], impl_SlotsOk_w c_32⟩), (80, ⟨[], impl_find_w c_80⟩), (34, ⟨[], impl_SlotGet_w c_34⟩), (84, ⟨[], impl_copyInts_w c_84⟩)], [], [], [(0, [0, 1]), (1, [0, 1, 7]), (2, [0, 1, 7, 20]), (3, [4, 5, 6]), (4, [0, 1, 7, 8]), (5, [0, 1, 7, 8, 26]), (6, [4, 5, 6]), (7, [7, 8, 9]), (8, [7, 9]), (9, [4, 5, 6])], impl_SlotDrop_L A c_71 c_32 c_80 c_34 c_84 A.fuel⟩
theorem impl_SlotDrop_ok (A : PM.Prims) (c_71 : impl_isKey_T) (c_32 : impl_SlotsOk_T) (c_80 : impl_find_T) (c_34 : impl_SlotGet_T) (c_84 : impl_copyInts_T) (l : List Int) (key : Int) (k : PM.V → PM.R) : PM.pfun A cx [] (impl_SlotDrop_E A c_71 c_32 c_80 c_34 c_84) Go.Proofs.Try.f44 [.arr (.ints 3 .i64 l), .int .i64 key] k = impl_SlotDrop_f A c_71 c_32 c_80 c_34 c_84 l key (fun r0 r1 r2 => k (.tup [.arr (.ints 3 .i64 r0), .int .i64 r1, .bool r2])) := by kernel_rfl

theorem impl_SlotDrop_fn : PM.FnIs Try.prog 44 Try.f44 := .of Try.func44 (by kernel_rfl) (by kernel_rfl)
theorem impl_SlotDrop_g : PM.GOk Try.prog cx 44 ⟨[], impl_SlotDrop_w (impl_SlotDrop PM.std)⟩ := by
  refine ⟨impl_SlotDrop_fn.enter, fun _ ds k r h => ?_, fun hm => absurd rfl hm⟩
  change impl_SlotDrop_w (impl_SlotDrop PM.std) ds k = some r at h
  unfold impl_SlotDrop_w at h
  split at h
  · exact PM.pfun_ok (E := impl_SlotDrop_E PM.std (impl_isKey PM.std) (impl_SlotsOk PM.std) (impl_find PM.std) (impl_SlotGet PM.std) (impl_copyInts PM.std)) (L := fun n => impl_SlotDrop_L PM.std (impl_isKey PM.std) (impl_SlotsOk PM.std) (impl_find PM.std) (impl_SlotGet PM.std) (impl_copyInts PM.std) n) (N := PM.std.fuel) cx_ok (.cons impl_isKey_g (.cons impl_SlotsOk_g (.cons impl_find_g (.cons impl_SlotGet_g (.cons impl_copyInts_g .nil))))) mixed .nil impl_SlotDrop_fn (by kernel_rfl) ⟨rfl, fun _ _ _ => rfl, fun n cur σ K r h => by cases h⟩
      ((impl_SlotDrop_ok PM.std (impl_isKey PM.std) (impl_SlotsOk PM.std) (impl_find PM.std) (impl_SlotGet PM.std) (impl_copyInts PM.std) _ _ k).trans h)
  · cases h

abbrev laws_FnExactSlotDrop_T := (List Int) → (Int) → ((Bool) → PM.R) → PM.R
noncomputable def laws_FnExactSlotDrop_w (c : laws_FnExactSlotDrop_T) (ds : List PM.V) (k : PM.V → PM.R) : PM.R :=
  match ds with
  | [.arr (.ints 3 .i64 __), .int .i64 a] => c __ a (fun r0 => k (.bool r0))
  | _ => none
noncomputable def laws_FnExactSlotDrop_f (A : PM.Prims) (c_24 : laws_eqIntS_T) (c_25 : laws_markIntS_T) (c_26 : laws_heldIntS_T) (c_31 : laws_toIntS_T) (c_43 : spec_SlotDrop_T) (c_44 : impl_SlotDrop_T) (__ : List Int) (a : Int) (k : (Bool) → PM.R) : PM.R :=
  bif (A.lt 1048576 (A.ilen __)) then
    k true
  else
    c_31 __ (fun r1 =>
      c_43 r1 a (fun r2 r3 r4 =>
        c_31 __ (fun r5 =>
          c_44 r5 a (fun r6 r7 r8 =>
            c_24 r6 r2 (fun r9 =>
              bif (A.not r9) then
                k false
              else
                bif (A.not (A.eq r7 r3)) then
                  k false
                else
                  bif (A.not (A.beq r8 r4)) then
                    k false
                  else
                    c_31 __ (fun r10 =>
                      c_24 r5 r10 (fun r11 =>
                        bif (A.not r11) then
                          k false
                        else
                          c_25 r5 1 (fun r12 r13 =>
                            bif (A.lt r12 0) then
                              k false
                            else
                              c_24 r6 r2 (fun r14 =>
                                bif (A.not r14) then
                                  k false
                                else
                                  bif (A.not (A.eq r7 r3)) then
                                    k false
                                  else
                                    bif (A.not (A.beq r8 r4)) then
                                      k false
                                    else
                                      c_25 r6 1 (fun r15 r16 =>
                                        c_26 r16 1 (fun r17 =>
                                          bif (A.lt r17 0) then
                                            k false
                                          else
                                            bif (A.not (A.eq r17 r15)) then
                                              k false
                                            else
                                              c_31 __ (fun r18 =>
                                                c_44 r18 a (fun r19 r20 r21 =>
                                                  c_24 r19 r2 (fun r22 =>
                                                    bif (A.not r22) then
                                                      k false
                                                    else
                                                      bif (A.not (A.eq r20 r3)) then
                                                        k false
                                                      else
                                                        bif (A.not (A.beq r21 r4)) then
                                                          k false
                                                        else
                                                          c_26 r16 1 (fun r23 =>
                                                            bif (A.lt r23 0) then
                                                              k false
                                                            else
                                                              bif (A.not (A.eq r23 r15)) then
                                                                k false
                                                              else
                                                                k true)))))))))))))))
noncomputable def laws_FnExactSlotDrop (A : PM.Prims) : laws_FnExactSlotDrop_T := laws_FnExactSlotDrop_f A (laws_eqIntS A) (laws_markIntS A) (laws_heldIntS A) (laws_toIntS A) (spec_SlotDrop A) (impl_SlotDrop A)
noncomputable def laws_FnExactSlotDrop_L (A : PM.Prims) (c_24 : laws_eqIntS_T) (c_25 : laws_markIntS_T) (c_26 : laws_heldIntS_T) (c_31 : laws_toIntS_T) (c_43 : spec_SlotDrop_T) (c_44 : impl_SlotDrop_T) (n : Nat) : PM.Lam := fun cur σ K =>
  match cur, σ, K with
  | _, _, _ => none
noncomputable def laws_FnExactSlotDrop_E (A : PM.Prims) (c_24 : laws_eqIntS_T) (c_25 : laws_markIntS_T) (c_26 : laws_heldIntS_T) (c_31 : laws_toIntS_T) (c_43 : spec_SlotDrop_T) (c_44 : impl_SlotDrop_T) : PM.Env := ⟨[(24, ⟨[], laws_eqIntS_w c_24⟩), (25, ⟨[true, false], laws_markIntS_w c_25⟩), (26, ⟨[], laws_heldIntS_w c_26⟩), (31, ⟨[], laws_toIntS_w c_31⟩), (43, ⟨[], spec_SlotDrop_w c_43⟩), (44, ⟨[], impl_SlotDrop_w c_44⟩)], [], [], [(0, [0, 1]), (1, [0, 1, 20]), (2, [4]), (3, [0, 1, 5, 6, 7]), (4, [0, 1, 5, 6, 7, 8]), (5, [0, 1, 5, 6, 7, 8, 9, 10, 11]), (6, [0, 1, 5, 6, 7, 8, 9, 10, 11, 51]), (7, [4]), (8, [0, 1, 5, 6, 7, 8, 9, 10, 11, 56]), (9, [4]), (10, [0, 1, 5, 6, 7, 8, 9, 10, 11, 12]), (11, [0, 1, 5, 6, 7, 9, 10, 11, 12]), (12, [0, 1, 5, 6, 7, 9, 77]), (13, [4]), (14, [0, 1, 5, 6, 7, 9, 13]), (15, [0, 1, 5, 6, 7, 9, 13]), (16, [0, 1, 5, 6, 7, 9, 13, 14]), (17, [0, 1, 5, 6, 7, 9, 13, 14]), (18, [0, 1, 5, 6, 7, 9, 13, 14, 85]), (19, [4]), (20, [0, 1, 5, 6, 7, 9, 13, 88]), (21, [4]), (22, [5, 6, 7, 9, 13, 15, 16, 17]), (23, [9, 13, 110]), (24, [4]), (25, [9, 13, 14]), (26, [13, 14]), (27, [13, 14, 115]), (28, [4]), (29, [118]), (30, [4]), (31, [4])], laws_FnExactSlotDrop_L A c_24 c_25 c_26 c_31 c_43 c_44 A.fuel⟩
theorem laws_FnExactSlotDrop_ok (A : PM.Prims) (c_24 : laws_eqIntS_T) (c_25 : laws_markIntS_T) (c_26 : laws_heldIntS_T) (c_31 : laws_toIntS_T) (c_43 : spec_SlotDrop_T) (c_44 : impl_SlotDrop_T) (__ : List Int) (a : Int) (k : PM.V → PM.R) : PM.pfun A cx [] (laws_FnExactSlotDrop_E A c_24 c_25 c_26 c_31 c_43 c_44) Go.Proofs.Try.f10 [.arr (.ints 3 .i64 __), .int .i64 a] k = laws_FnExactSlotDrop_f A c_24 c_25 c_26 c_31 c_43 c_44 __ a (fun r0 => k (.bool r0)) := by kernel_rfl

theorem laws_FnExactSlotDrop_fn : PM.FnIs Try.prog 10 Try.f10 := .of Try.func10 (by kernel_rfl) (by kernel_rfl)
theorem laws_FnExactSlotDrop_g : PM.GOk Try.prog cx 10 ⟨[], laws_FnExactSlotDrop_w (laws_FnExactSlotDrop PM.std)⟩ := by
  refine ⟨laws_FnExactSlotDrop_fn.enter, fun _ ds k r h => ?_, fun hm => absurd rfl hm⟩
  change laws_FnExactSlotDrop_w (laws_FnExactSlotDrop PM.std) ds k = some r at h
  unfold laws_FnExactSlotDrop_w at h
  split at h
  · exact PM.pfun_ok (E := laws_FnExactSlotDrop_E PM.std (laws_eqIntS PM.std) (laws_markIntS PM.std) (laws_heldIntS PM.std) (laws_toIntS PM.std) (spec_SlotDrop PM.std) (impl_SlotDrop PM.std)) (L := fun n => laws_FnExactSlotDrop_L PM.std (laws_eqIntS PM.std) (laws_markIntS PM.std) (laws_heldIntS PM.std) (laws_toIntS PM.std) (spec_SlotDrop PM.std) (impl_SlotDrop PM.std) n) (N := PM.std.fuel) cx_ok (.cons laws_eqIntS_g (.cons laws_markIntS_g (.cons laws_heldIntS_g (.cons laws_toIntS_g (.cons spec_SlotDrop_g (.cons impl_SlotDrop_g .nil)))))) mixed .nil laws_FnExactSlotDrop_fn (by kernel_rfl) ⟨rfl, fun _ _ _ => rfl, fun n cur σ K r h => by cases h⟩
      ((laws_FnExactSlotDrop_ok PM.std (laws_eqIntS PM.std) (laws_markIntS PM.std) (laws_heldIntS PM.std) (laws_toIntS PM.std) (spec_SlotDrop PM.std) (impl_SlotDrop PM.std) _ _ k).trans h)
  · cases h

abbrev spec_MapOf_T := (List Int) → ((List Int) → PM.R) → PM.R
noncomputable def spec_MapOf_w (c : spec_MapOf_T) (ds : List PM.V) (k : PM.V → PM.R) : PM.R :=
  match ds with
  | [.arr (.ints 3 .i64 l)] => c l (fun r0 => k (.arr (.ints 3 .i64 r0)))
  | _ => none
noncomputable def spec_MapOf_l0 (A : PM.Prims) (c_30 : spec_SlotsOk_T) (c_33 : spec_SlotGet_T) : Nat → (List Int) → (Int) → (List Int) → ((List Int) → PM.R) → PM.R
  | 0, _, _, _, _ => none
  | n + 1, l2, k3, o04, kx0_0 =>
    bif (A.lt k3 8) then
      c_33 l2 k3 (fun r5 r6 =>
        bif r6 then
          bif (A.room (A.ilen o04) (A.ilen [(A.add .i64 r5 1)])) then
            spec_MapOf_l0 A c_30 c_33 n l2 (A.add .i64 k3 1) (A.iapp o04 [(A.add .i64 r5 1)]) kx0_0
          else
            none
        else
          bif (A.room (A.ilen o04) (A.ilen [r5])) then
            spec_MapOf_l0 A c_30 c_33 n l2 (A.add .i64 k3 1) (A.iapp o04 [r5]) kx0_0
          else
            none)
    else
      kx0_0 o04
noncomputable def spec_MapOf_f (A : PM.Prims) (c_30 : spec_SlotsOk_T) (c_33 : spec_SlotGet_T) (l : List Int) (k : (List Int) → PM.R) : PM.R :=
  c_30 l (fun r1 =>
    bif (A.not r1) then
      k []
    else
      spec_MapOf_l0 A c_30 c_33 A.fuel l 0 [] (fun o078 =>
        k o078))
noncomputable def spec_MapOf (A : PM.Prims) : spec_MapOf_T := spec_MapOf_f A (spec_SlotsOk A) (spec_SlotGet A)
noncomputable def spec_MapOf_L (A : PM.Prims) (c_30 : spec_SlotsOk_T) (c_33 : spec_SlotGet_T) (n : Nat) : PM.Lam := fun cur σ K =>
  match cur, σ, K with
  | 0, ⟨[(0, .arr (.ints 3 .i64 l2)), (3, .sref 0), (4, .int .i64 k3)], [(0, .arr true (.ints 3 .i64 o04))]⟩, K => spec_MapOf_l0 A c_30 c_33 n l2 k3 o04 (fun o07 => K (.exit 0) ⟨[(3, .sref 0)], [(0, .arr true (.ints 3 .i64 o07))]⟩)
  | _, _, _ => none
noncomputable def spec_MapOf_E (A : PM.Prims) (c_30 : spec_SlotsOk_T) (c_33 : spec_SlotGet_T) : PM.Env := ⟨[(30, ⟨[], spec_SlotsOk_w c_30⟩), (33, ⟨[], spec_SlotGet_w c_33⟩)], [], [(0, [0, 3, 4], [2, 3])], [(0, [0]), (1, [0, 3]), (2, [0, 3, 10]), (3, [2]), (4, [0, 3, 4]), (5, [0, 3, 4, 13]), (6, [0, 3, 4]), (7, [0, 3, 4, 5, 6]), (8, [0, 3, 4, 5, 22]), (9, [0, 3, 4, 5]), (10, [0, 3, 4]), (11, [2])], spec_MapOf_L A c_30 c_33 A.fuel⟩
theorem spec_MapOf_l0_ok (A : PM.Prims) (c_30 : spec_SlotsOk_T) (c_33 : spec_SlotGet_T) (n : Nat) (l2 : List Int) (k3 : Int) (o04 : List Int) (K : Go.Exit → PM.S → PM.R) : spec_MapOf_L A c_30 c_33 (n + 1) 0 ⟨[(0, .arr (.ints 3 .i64 l2)), (3, .sref 0), (4, .int .i64 k3)], [(0, .arr true (.ints 3 .i64 o04))]⟩ K = PM.roundF A cx (PM.runD A cx (spec_MapOf_E A c_30 c_33).inl (spec_MapOf_E A c_30 c_33).Γ 3) (spec_MapOf_E A c_30 c_33) (spec_MapOf_L A c_30 c_33 n) 0 Go.Proofs.Try.f45 ⟨[(0, .arr (.ints 3 .i64 l2)), (3, .sref 0), (4, .int .i64 k3)], [(0, .arr true (.ints 3 .i64 o04))]⟩ K := by kernel_rfl
theorem spec_MapOf_ok (A : PM.Prims) (c_30 : spec_SlotsOk_T) (c_33 : spec_SlotGet_T) (l : List Int) (k : PM.V → PM.R) : PM.pfun A cx [] (spec_MapOf_E A c_30 c_33) Go.Proofs.Try.f45 [.arr (.ints 3 .i64 l)] k = spec_MapOf_f A c_30 c_33 l (fun r0 => k (.arr (.ints 3 .i64 r0))) := by kernel_rfl

theorem spec_MapOf_fn : PM.FnIs Try.prog 45 Try.f45 := .of Try.func45 (by kernel_rfl) (by kernel_rfl)
theorem spec_MapOf_g : PM.GOk Try.prog cx 45 ⟨[], spec_MapOf_w (spec_MapOf PM.std)⟩ := by
  refine ⟨spec_MapOf_fn.enter, fun _ ds k r h => ?_, fun hm => absurd rfl hm⟩
  change spec_MapOf_w (spec_MapOf PM.std) ds k = some r at h
  unfold spec_MapOf_w at h
  split at h
  · exact PM.pfun_ok (E := spec_MapOf_E PM.std (spec_SlotsOk PM.std) (spec_SlotGet PM.std)) (L := fun n => spec_MapOf_L PM.std (spec_SlotsOk PM.std) (spec_SlotGet PM.std) n) (N := PM.std.fuel) cx_ok (.cons spec_SlotsOk_g (.cons spec_SlotGet_g .nil)) mixed .nil spec_MapOf_fn (by kernel_rfl) ⟨rfl, fun cur σ K => by
      dsimp only [spec_MapOf_L]
      split <;> rfl, fun n cur σ K r h => by
      dsimp only [spec_MapOf_L] at h
      split at h
      · exact (spec_MapOf_l0_ok PM.std (spec_SlotsOk PM.std) (spec_SlotGet PM.std) n _ _ _ K).symm.trans h
      · cases h⟩
      ((spec_MapOf_ok PM.std (spec_SlotsOk PM.std) (spec_SlotGet PM.std) _ k).trans h)
  · cases h

abbrev impl_MapOf_T := (List Int) → ((List Int) → PM.R) → PM.R
noncomputable def impl_MapOf_w (c : impl_MapOf_T) (ds : List PM.V) (k : PM.V → PM.R) : PM.R :=
  match ds with
  | [.arr (.ints 3 .i64 l)] => c l (fun r0 => k (.arr (.ints 3 .i64 r0)))
  | _ => none
noncomputable def impl_MapOf_l0 (A : PM.Prims) (c_32 : impl_SlotsOk_T) (c_34 : impl_SlotGet_T) : Nat → (List Int) → (Int) → (List Int) → ((List Int) → PM.R) → PM.R
  | 0, _, _, _, _ => none
  | n + 1, l2, t123, o04, kx0_0 =>
    bif (A.lt t123 8) then
      c_34 l2 t123 (fun r5 r6 =>
        bif r6 then
          bif (A.room (A.ilen o04) (A.ilen [(A.add .i64 r5 1)])) then
            impl_MapOf_l0 A c_32 c_34 n l2 (A.add .i64 t123 1) (A.iapp o04 [(A.add .i64 r5 1)]) kx0_0
          else
            none
        else
          bif (A.room (A.ilen o04) (A.ilen [0])) then
            impl_MapOf_l0 A c_32 c_34 n l2 (A.add .i64 t123 1) (A.iapp o04 [0]) kx0_0
          else
            none)
    else
      kx0_0 o04
noncomputable def impl_MapOf_f (A : PM.Prims) (c_32 : impl_SlotsOk_T) (c_34 : impl_SlotGet_T) (l : List Int) (k : (List Int) → PM.R) : PM.R :=
  c_32 l (fun r1 =>
    bif (A.not r1) then
      k []
    else
      impl_MapOf_l0 A c_32 c_34 A.fuel l 0 [] (fun o078 =>
        k o078))
noncomputable def impl_MapOf (A : PM.Prims) : impl_MapOf_T := impl_MapOf_f A (impl_SlotsOk A) (impl_SlotGet A)
noncomputable def impl_MapOf_L (A : PM.Prims) (c_32 : impl_SlotsOk_T) (c_34 : impl_SlotGet_T) (n : Nat) : PM.Lam := fun cur σ K =>
  match cur, σ, K with
  | 0, ⟨[(0, .arr (.ints 3 .i64 l2)), (3, .sref 0), (12, .int .i64 t123)], [(0, .arr true (.ints 3 .i64 o04))]⟩, K => impl_MapOf_l0 A c_32 c_34 n l2 t123 o04 (fun o07 => K (.exit 0) ⟨[(3, .sref 0)], [(0, .arr true (.ints 3 .i64 o07))]⟩)
  | _, _, _ => none
noncomputable def impl_MapOf_E (A : PM.Prims) (c_32 : impl_SlotsOk_T) (c_34 : impl_SlotGet_T) : PM.Env := ⟨[(32, ⟨[], impl_SlotsOk_w c_32⟩), (34, ⟨[], impl_SlotGet_w c_34⟩)], [], [(0, [0, 3, 12], [2, 3])], [(0, [0]), (1, [0, 10]), (2, [2]), (3, [0, 3]), (4, [0, 3, 12]), (5, [0, 3, 12, 13]), (6, [0, 3, 4, 12]), (7, [0, 3, 4, 5, 12]), (8, [0, 3, 5, 6, 7, 12]), (9, [0, 3, 5, 6, 12, 21]), (10, [0, 3, 5, 12]), (11, [0, 3, 12]), (12, [0, 3, 12]), (13, [2])], impl_MapOf_L A c_32 c_34 A.fuel⟩
theorem impl_MapOf_l0_ok (A : PM.Prims) (c_32 : impl_SlotsOk_T) (c_34 : impl_SlotGet_T) (n : Nat) (l2 : List Int) (t123 : Int) (o04 : List Int) (K : Go.Exit → PM.S → PM.R) : impl_MapOf_L A c_32 c_34 (n + 1) 0 ⟨[(0, .arr (.ints 3 .i64 l2)), (3, .sref 0), (12, .int .i64 t123)], [(0, .arr true (.ints 3 .i64 o04))]⟩ K = PM.roundF A cx (PM.runD A cx (impl_MapOf_E A c_32 c_34).inl (impl_MapOf_E A c_32 c_34).Γ 3) (impl_MapOf_E A c_32 c_34) (impl_MapOf_L A c_32 c_34 n) 0 Go.Proofs.Try.f46 ⟨[(0, .arr (.ints 3 .i64 l2)), (3, .sref 0), (12, .int .i64 t123)], [(0, .arr true (.ints 3 .i64 o04))]⟩ K := by kernel_rfl
theorem impl_MapOf_ok (A : PM.Prims) (c_32 : impl_SlotsOk_T) (c_34 : impl_SlotGet_T) (l : List Int) (k : PM.V → PM.R) : PM.pfun A cx [] (impl_MapOf_E A c_32 c_34) Go.Proofs.Try.f46 [.arr (.ints 3 .i64 l)] k = impl_MapOf_f A c_32 c_34 l (fun r0 => k (.arr (.ints 3 .i64 r0))) := by kernel_rfl

theorem impl_MapOf_fn : PM.FnIs Try.prog 46 Try.f46 := .of Try.func46 (by kernel_rfl) (by kernel_rfl)
theorem impl_MapOf_g : PM.GOk Try.prog cx 46 ⟨[], impl_MapOf_w (impl_MapOf PM.std)⟩ := by
  refine ⟨impl_MapOf_fn.enter, fun _ ds k r h => ?_, fun hm => absurd rfl hm⟩
  change impl_MapOf_w (impl_MapOf PM.std) ds k = some r at h
  unfold impl_MapOf_w at h
  split at h
  · exact PM.pfun_ok (E := impl_MapOf_E PM.std (impl_SlotsOk PM.std) (impl_SlotGet PM.std)) (L := fun n => impl_MapOf_L PM.std (impl_SlotsOk PM.std) (impl_SlotGet PM.std) n) (N := PM.std.fuel) cx_ok (.cons impl_SlotsOk_g (.cons impl_SlotGet_g .nil)) mixed .nil impl_MapOf_fn (by kernel_rfl) ⟨rfl, fun cur σ K => by
      dsimp only [impl_MapOf_L]
      split <;> rfl, fun n cur σ K r h => by
      dsimp only [impl_MapOf_L] at h
      split at h
      · exact (impl_MapOf_l0_ok PM.std (impl_SlotsOk PM.std) (impl_SlotGet PM.std) n _ _ _ K).symm.trans h
      · cases h⟩
      ((impl_MapOf_ok PM.std (impl_SlotsOk PM.std) (impl_SlotGet PM.std) _ k).trans h)
  · cases h

abbrev laws_FnExactMapOf_T := (List Int) → ((Bool) → PM.R) → PM.R
noncomputable def laws_FnExactMapOf_w (c : laws_FnExactMapOf_T) (ds : List PM.V) (k : PM.V → PM.R) : PM.R :=
  match ds with
  | [.arr (.ints 3 .i64 __)] => c __ (fun r0 => k (.bool r0))
  | _ => none
noncomputable def laws_FnExactMapOf_f (A : PM.Prims) (c_24 : laws_eqIntS_T) (c_25 : laws_markIntS_T) (c_26 : laws_heldIntS_T) (c_31 : laws_toIntS_T) (c_45 : spec_MapOf_T) (c_46 : impl_MapOf_T) (__ : List Int) (k : (Bool) → PM.R) : PM.R :=
  bif (A.lt 1048576 (A.ilen __)) then
    k true
  else
    c_31 __ (fun r1 =>
      c_45 r1 (fun r2 =>
        c_31 __ (fun r3 =>
          c_46 r3 (fun r4 =>
            c_24 r4 r2 (fun r5 =>
              bif (A.not r5) then
                k false
              else
                c_31 __ (fun r6 =>
                  c_24 r3 r6 (fun r7 =>
                    bif (A.not r7) then
                      k false
                    else
                      c_25 r3 1 (fun r8 r9 =>
                        bif (A.lt r8 0) then
                          k false
                        else
                          c_24 r4 r2 (fun r10 =>
                            bif (A.not r10) then
                              k false
                            else
                              c_25 r4 1 (fun r11 r12 =>
                                c_26 r12 1 (fun r13 =>
                                  bif (A.lt r13 0) then
                                    k false
                                  else
                                    bif (A.not (A.eq r13 r11)) then
                                      k false
                                    else
                                      c_31 __ (fun r14 =>
                                        c_46 r14 (fun r15 =>
                                          c_24 r15 r2 (fun r16 =>
                                            bif (A.not r16) then
                                              k false
                                            else
                                              c_26 r12 1 (fun r17 =>
                                                bif (A.lt r17 0) then
                                                  k false
                                                else
                                                  bif (A.not (A.eq r17 r11)) then
                                                    k false
                                                  else
                                                    k true)))))))))))))))
noncomputable def laws_FnExactMapOf (A : PM.Prims) : laws_FnExactMapOf_T := laws_FnExactMapOf_f A (laws_eqIntS A) (laws_markIntS A) (laws_heldIntS A) (laws_toIntS A) (spec_MapOf A) (impl_MapOf A)
noncomputable def laws_FnExactMapOf_L (A : PM.Prims) (c_24 : laws_eqIntS_T) (c_25 : laws_markIntS_T) (c_26 : laws_heldIntS_T) (c_31 : laws_toIntS_T) (c_45 : spec_MapOf_T) (c_46 : impl_MapOf_T) (n : Nat) : PM.Lam := fun cur σ K =>
  match cur, σ, K with
  | _, _, _ => none
noncomputable def laws_FnExactMapOf_E (A : PM.Prims) (c_24 : laws_eqIntS_T) (c_25 : laws_markIntS_T) (c_26 : laws_heldIntS_T) (c_31 : laws_toIntS_T) (c_45 : spec_MapOf_T) (c_46 : impl_MapOf_T) : PM.Env := ⟨[(24, ⟨[], laws_eqIntS_w c_24⟩), (25, ⟨[true, false], laws_markIntS_w c_25⟩), (26, ⟨[], laws_heldIntS_w c_26⟩), (31, ⟨[], laws_toIntS_w c_31⟩), (45, ⟨[], spec_MapOf_w c_45⟩), (46, ⟨[], impl_MapOf_w c_46⟩)], [], [], [(0, [0]), (1, [0, 12]), (2, [2]), (3, [0, 3]), (4, [0, 3, 4]), (5, [0, 3, 4, 5]), (6, [0, 3, 4, 5, 23]), (7, [2]), (8, [0, 3, 4, 5, 28]), (9, [2]), (10, [0, 3, 4, 5, 6]), (11, [0, 3, 5, 6]), (12, [0, 3, 5, 39]), (13, [2]), (14, [0, 3, 5, 7]), (15, [0, 3, 5, 7]), (16, [0, 3, 5, 7, 8]), (17, [0, 3, 5, 7, 8]), (18, [0, 3, 5, 7, 8, 47]), (19, [2]), (20, [0, 3, 5, 7, 50]), (21, [2]), (22, [3, 5, 7, 9]), (23, [5, 7, 57]), (24, [2]), (25, [5, 7, 8]), (26, [7, 8]), (27, [7, 8, 62]), (28, [2]), (29, [65]), (30, [2]), (31, [2])], laws_FnExactMapOf_L A c_24 c_25 c_26 c_31 c_45 c_46 A.fuel⟩
theorem laws_FnExactMapOf_ok (A : PM.Prims) (c_24 : laws_eqIntS_T) (c_25 : laws_markIntS_T) (c_26 : laws_heldIntS_T) (c_31 : laws_toIntS_T) (c_45 : spec_MapOf_T) (c_46 : impl_MapOf_T) (__ : List Int) (k : PM.V → PM.R) : PM.pfun A cx [] (laws_FnExactMapOf_E A c_24 c_25 c_26 c_31 c_45 c_46) Go.Proofs.Try.f11 [.arr (.ints 3 .i64 __)] k = laws_FnExactMapOf_f A c_24 c_25 c_26 c_31 c_45 c_46 __ (fun r0 => k (.bool r0)) := by kernel_rfl

theorem laws_FnExactMapOf_fn : PM.FnIs Try.prog 11 Try.f11 := .of Try.func11 (by kernel_rfl) (by kernel_rfl)
theorem laws_FnExactMapOf_g : PM.GOk Try.prog cx 11 ⟨[], laws_FnExactMapOf_w (laws_FnExactMapOf PM.std)⟩ := by
  refine ⟨laws_FnExactMapOf_fn.enter, fun _ ds k r h => ?_, fun hm => absurd rfl hm⟩
  change laws_FnExactMapOf_w (laws_FnExactMapOf PM.std) ds k = some r at h
  unfold laws_FnExactMapOf_w at h
  split at h
  · exact PM.pfun_ok (E := laws_FnExactMapOf_E PM.std (laws_eqIntS PM.std) (laws_markIntS PM.std) (laws_heldIntS PM.std) (laws_toIntS PM.std) (spec_MapOf PM.std) (impl_MapOf PM.std)) (L := fun n => laws_FnExactMapOf_L PM.std (laws_eqIntS PM.std) (laws_markIntS PM.std) (laws_heldIntS PM.std) (laws_toIntS PM.std) (spec_MapOf PM.std) (impl_MapOf PM.std) n) (N := PM.std.fuel) cx_ok (.cons laws_eqIntS_g (.cons laws_markIntS_g (.cons laws_heldIntS_g (.cons laws_toIntS_g (.cons spec_MapOf_g (.cons impl_MapOf_g .nil)))))) mixed .nil laws_FnExactMapOf_fn (by kernel_rfl) ⟨rfl, fun _ _ _ => rfl, fun n cur σ K r h => by cases h⟩
      ((laws_FnExactMapOf_ok PM.std (laws_eqIntS PM.std) (laws_markIntS PM.std) (laws_heldIntS PM.std) (laws_toIntS PM.std) (spec_MapOf PM.std) (impl_MapOf PM.std) _ k).trans h)
  · cases h

end X
