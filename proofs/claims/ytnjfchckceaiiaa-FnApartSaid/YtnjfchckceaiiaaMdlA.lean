/- Models of the functions, or plain laws about them; each theorem states its own conditions. -/
import Derived.Test.YtnjfchckceaiiaaL3
import Derived.Test.YtnjfchckceaiiaaL4
import Derived.Test.YtnjfchckceaiiaaProg
import Derived.KernelRfl
set_option linter.unusedVariables false
set_option linter.unusedSimpArgs false
open Go.Proofs
namespace X
open PM
set_option maxRecDepth 100000
set_option maxHeartbeats 4000000
noncomputable def cx : PM.Cx := [
  (2, ⟨1, false, [.int .i64 0], none, 0, none, [], [], [], [.int .i64], false⟩),
  (3, ⟨1, false, [.int .i64 0], none, 0, none, [], [], [], [.int .i64], false⟩),
  (4, ⟨1, false, [.bool false], none, 0, none, [], [], [], [.bool], false⟩),
  (5, ⟨1, false, [.int .u8 0], none, 0, none, [], [], [], [.int .u8], false⟩),
  (6, ⟨1, false, [.int .u8 0], none, 0, none, [], [], [], [.int .u8], false⟩),
  (7, ⟨4, true, [.int .i64 0, .int .i64 0, .bool false, .int .u8 0], none, 0, none, [0, 1, 2, 3], [1, 1, 1, 1], [2, 3, 4, 6], [.int .i64, .int .i64, .bool, .int .u8], true⟩),
  (8, ⟨4, true, [.int .i64 0, .int .i64 0, .bool false, .int .u8 0], none, 0, none, [0, 1, 2, 3], [1, 1, 1, 1], [2, 3, 4, 6], [.int .i64, .int .i64, .bool, .int .u8], true⟩),
  (12, ⟨1, false, [.int .u64 0], none, 0, none, [], [], [], [.int .u64], false⟩),
  (21, ⟨1, false, [.int .i32 0], none, 0, none, [], [], [], [.int .i32], false⟩),
  (22, ⟨1, false, [.arr (.emp (.ints 5 .u8))], some (.ints 5 .u8), 1, none, [], [], [], [.sl 22], false⟩),
  (24, ⟨1, false, [.arr (.emp (.ints 3 .i64))], some (.ints 3 .i64), 1, none, [], [], [], [.sl 24], false⟩),
  (36, ⟨2, true, [.arr (.emp (.ints 3 .i64)), .int .i64 0], none, 0, none, [0, 1], [1, 1], [24, 3], [.sl 24, .int .i64], false⟩),
  (37, ⟨2, true, [.arr (.emp (.ints 3 .i64)), .int .i64 0], none, 0, none, [0, 1], [1, 1], [24, 3], [.sl 24, .int .i64], false⟩),
  (38, ⟨4, true, [.int .i64 0, .int .i64 0, .int .i64 0, .int .i64 0], none, 0, none, [0, 1, 2, 3], [1, 1, 1, 1], [3, 3, 3, 3], [.int .i64, .int .i64, .int .i64, .int .i64], true⟩),
  (39, ⟨4, true, [.int .i64 0, .int .i64 0, .int .i64 0, .int .i64 0], none, 0, none, [0, 1, 2, 3], [1, 1, 1, 1], [3, 3, 3, 3], [.int .i64, .int .i64, .int .i64, .int .i64], true⟩),
  (47, ⟨3, true, [.int .i64 0, .int .i64 0, .int .i64 0], none, 0, none, [0, 1, 2], [1, 1, 1], [3, 3, 3], [.int .i64, .int .i64, .int .i64], true⟩),
  (48, ⟨3, true, [.int .i64 0, .int .i64 0, .int .i64 0], none, 0, none, [0, 1, 2], [1, 1, 1], [3, 3, 3], [.int .i64, .int .i64, .int .i64], true⟩),
  (53, ⟨1, false, [.arr (.emp (.vecs 48 3))], some (.vecs 48 3), 3, none, [], [], [], [.sl 53], false⟩),
  (64, ⟨1, false, [.arr (.emp (.bools 4))], some (.bools 4), 1, none, [], [], [], [.sl 64], false⟩),
  (77, ⟨3, true, [.arr (.emp (.ints 5 .u8)), .int .i64 0, .int .i64 0], none, 0, none, [0, 1, 2], [1, 1, 1], [22, 3, 3], [.sl 22, .int .i64, .int .i64], false⟩),
  (78, ⟨3, true, [.arr (.emp (.ints 5 .u8)), .int .i64 0, .int .i64 0], none, 0, none, [0, 1, 2], [1, 1, 1], [22, 3, 3], [.sl 22, .int .i64, .int .i64], false⟩),
  (79, ⟨8, true, [], some (.bools 79), 1, some 8, [], [], [], [], false⟩),
  (80, ⟨1, false, [.int .u64 0], none, 0, none, [], [], [], [.int .u64], false⟩),
  (88, ⟨1, false, [.int .u32 0], none, 0, none, [], [], [], [.int .u32], false⟩),
  (89, ⟨1, false, [.int .u8 0], none, 0, none, [], [], [], [.int .u8], false⟩),
  (90, ⟨1, false, [.int .u8 0], none, 0, none, [], [], [], [.int .u8], false⟩),
  (93, ⟨1, false, [.int .i32 0], none, 0, none, [], [], [], [.int .i32], false⟩),
  (94, ⟨1, false, [.int .i32 0], none, 0, none, [], [], [], [.int .i32], false⟩)]
theorem mixed : Try.prog.follows .mixedOrders = true := by kernel_rfl
theorem cx_ok : PM.CxOk Try.prog cx := PM.cxChk_ok (by kernel_rfl)
theorem cx_read : PM.CxRead Try.prog cx := PM.cxRead_ok (by kernel_rfl)

theorem cx_at2 : PM.find cx 2 = some ⟨1, false, [.int .i64 0], none, 0, none, [], [], [], [.int .i64], false⟩ := by kernel_rfl
theorem cx_at3 : PM.find cx 3 = some ⟨1, false, [.int .i64 0], none, 0, none, [], [], [], [.int .i64], false⟩ := by kernel_rfl
theorem cx_at4 : PM.find cx 4 = some ⟨1, false, [.bool false], none, 0, none, [], [], [], [.bool], false⟩ := by kernel_rfl
theorem cx_at5 : PM.find cx 5 = some ⟨1, false, [.int .u8 0], none, 0, none, [], [], [], [.int .u8], false⟩ := by kernel_rfl
theorem cx_at6 : PM.find cx 6 = some ⟨1, false, [.int .u8 0], none, 0, none, [], [], [], [.int .u8], false⟩ := by kernel_rfl
theorem cx_at7 : PM.find cx 7 = some ⟨4, true, [.int .i64 0, .int .i64 0, .bool false, .int .u8 0], none, 0, none, [0, 1, 2, 3], [1, 1, 1, 1], [2, 3, 4, 6], [.int .i64, .int .i64, .bool, .int .u8], true⟩ := by kernel_rfl
theorem cx_at8 : PM.find cx 8 = some ⟨4, true, [.int .i64 0, .int .i64 0, .bool false, .int .u8 0], none, 0, none, [0, 1, 2, 3], [1, 1, 1, 1], [2, 3, 4, 6], [.int .i64, .int .i64, .bool, .int .u8], true⟩ := by kernel_rfl
theorem cx_at12 : PM.find cx 12 = some ⟨1, false, [.int .u64 0], none, 0, none, [], [], [], [.int .u64], false⟩ := by kernel_rfl
theorem cx_at21 : PM.find cx 21 = some ⟨1, false, [.int .i32 0], none, 0, none, [], [], [], [.int .i32], false⟩ := by kernel_rfl
theorem cx_at22 : PM.find cx 22 = some ⟨1, false, [.arr (.emp (.ints 5 .u8))], some (.ints 5 .u8), 1, none, [], [], [], [.sl 22], false⟩ := by kernel_rfl
theorem cx_at24 : PM.find cx 24 = some ⟨1, false, [.arr (.emp (.ints 3 .i64))], some (.ints 3 .i64), 1, none, [], [], [], [.sl 24], false⟩ := by kernel_rfl
theorem cx_at36 : PM.find cx 36 = some ⟨2, true, [.arr (.emp (.ints 3 .i64)), .int .i64 0], none, 0, none, [0, 1], [1, 1], [24, 3], [.sl 24, .int .i64], false⟩ := by kernel_rfl
theorem cx_at37 : PM.find cx 37 = some ⟨2, true, [.arr (.emp (.ints 3 .i64)), .int .i64 0], none, 0, none, [0, 1], [1, 1], [24, 3], [.sl 24, .int .i64], false⟩ := by kernel_rfl
theorem cx_at38 : PM.find cx 38 = some ⟨4, true, [.int .i64 0, .int .i64 0, .int .i64 0, .int .i64 0], none, 0, none, [0, 1, 2, 3], [1, 1, 1, 1], [3, 3, 3, 3], [.int .i64, .int .i64, .int .i64, .int .i64], true⟩ := by kernel_rfl
theorem cx_at39 : PM.find cx 39 = some ⟨4, true, [.int .i64 0, .int .i64 0, .int .i64 0, .int .i64 0], none, 0, none, [0, 1, 2, 3], [1, 1, 1, 1], [3, 3, 3, 3], [.int .i64, .int .i64, .int .i64, .int .i64], true⟩ := by kernel_rfl
theorem cx_at47 : PM.find cx 47 = some ⟨3, true, [.int .i64 0, .int .i64 0, .int .i64 0], none, 0, none, [0, 1, 2], [1, 1, 1], [3, 3, 3], [.int .i64, .int .i64, .int .i64], true⟩ := by kernel_rfl
theorem cx_at48 : PM.find cx 48 = some ⟨3, true, [.int .i64 0, .int .i64 0, .int .i64 0], none, 0, none, [0, 1, 2], [1, 1, 1], [3, 3, 3], [.int .i64, .int .i64, .int .i64], true⟩ := by kernel_rfl
theorem cx_at53 : PM.find cx 53 = some ⟨1, false, [.arr (.emp (.vecs 48 3))], some (.vecs 48 3), 3, none, [], [], [], [.sl 53], false⟩ := by kernel_rfl
theorem cx_at64 : PM.find cx 64 = some ⟨1, false, [.arr (.emp (.bools 4))], some (.bools 4), 1, none, [], [], [], [.sl 64], false⟩ := by kernel_rfl
theorem cx_at77 : PM.find cx 77 = some ⟨3, true, [.arr (.emp (.ints 5 .u8)), .int .i64 0, .int .i64 0], none, 0, none, [0, 1, 2], [1, 1, 1], [22, 3, 3], [.sl 22, .int .i64, .int .i64], false⟩ := by kernel_rfl
theorem cx_at78 : PM.find cx 78 = some ⟨3, true, [.arr (.emp (.ints 5 .u8)), .int .i64 0, .int .i64 0], none, 0, none, [0, 1, 2], [1, 1, 1], [22, 3, 3], [.sl 22, .int .i64, .int .i64], false⟩ := by kernel_rfl
theorem cx_at79 : PM.find cx 79 = some ⟨8, true, [], some (.bools 79), 1, some 8, [], [], [], [], false⟩ := by kernel_rfl
theorem cx_at80 : PM.find cx 80 = some ⟨1, false, [.int .u64 0], none, 0, none, [], [], [], [.int .u64], false⟩ := by kernel_rfl
theorem cx_at88 : PM.find cx 88 = some ⟨1, false, [.int .u32 0], none, 0, none, [], [], [], [.int .u32], false⟩ := by kernel_rfl
theorem cx_at89 : PM.find cx 89 = some ⟨1, false, [.int .u8 0], none, 0, none, [], [], [], [.int .u8], false⟩ := by kernel_rfl
theorem cx_at90 : PM.find cx 90 = some ⟨1, false, [.int .u8 0], none, 0, none, [], [], [], [.int .u8], false⟩ := by kernel_rfl
theorem cx_at93 : PM.find cx 93 = some ⟨1, false, [.int .i32 0], none, 0, none, [], [], [], [.int .i32], false⟩ := by kernel_rfl
theorem cx_at94 : PM.find cx 94 = some ⟨1, false, [.int .i32 0], none, 0, none, [], [], [], [.int .i32], false⟩ := by kernel_rfl

abbrev laws_big_T := (List Int) → ((Bool) → PM.R) → PM.R
noncomputable def laws_big_w (c : laws_big_T) (ds : List PM.V) (k : PM.V → PM.R) : PM.R :=
  match ds with
  | [.arr (.ints 5 .u8 code)] => c code (fun r0 => k (.bool r0))
  | _ => none
noncomputable def laws_big_f (A : PM.Prims) (code : List Int) (k : (Bool) → PM.R) : PM.R :=
  k (A.lt 1048576 (A.ilen code))
noncomputable def laws_big (A : PM.Prims) : laws_big_T := laws_big_f A
noncomputable def laws_big_L (A : PM.Prims) (n : Nat) : PM.Lam := fun cur σ K =>
  match cur, σ, K with
  | _, _, _ => none
noncomputable def laws_big_E (A : PM.Prims) : PM.Env := ⟨[], [], [], [(0, [0]), (1, [2])], laws_big_L A A.fuel⟩
theorem laws_big_ok (A : PM.Prims) (code : List Int) (k : PM.V → PM.R) : PM.pfun A cx [] (laws_big_E A) Go.Proofs.Try.f6 [.arr (.ints 5 .u8 code)] k = laws_big_f A code (fun r0 => k (.bool r0)) := by kernel_rfl

theorem laws_big_fn : PM.FnIs Try.prog 6 Try.f6 := .of Try.func6 (by kernel_rfl) (by kernel_rfl)
theorem laws_big_g : PM.GOk Try.prog cx 6 ⟨[], laws_big_w (laws_big PM.std), none⟩ := by
  refine ⟨laws_big_fn.enter, fun _ ds k r h => ?_, fun hm => absurd rfl hm, fun _ e => (by cases e)⟩
  change laws_big_w (laws_big PM.std) ds k = some r at h
  unfold laws_big_w at h
  split at h
  · exact PM.pfun_ok (E := laws_big_E PM.std) (L := fun n => laws_big_L PM.std n) (N := PM.std.fuel) cx_ok .nil mixed .nil laws_big_fn (by kernel_rfl) ⟨rfl, fun _ _ _ => rfl, fun n cur σ K r h => by cases h⟩
      ((laws_big_ok PM.std _ k).trans h)
  · cases h

abbrev spec_l1New_T := (List Int) → ((List Int) → (Int) → (Int) → PM.R) → PM.R
noncomputable def spec_l1New_w (c : spec_l1New_T) (ds : List PM.V) (k : PM.V → PM.R) : PM.R :=
  match ds with
  | [.arr (.ints 5 .u8 code)] => c code (fun r0_b r0_i r0_h => k (.tup [.arr (.ints 5 .u8 r0_b), .int .i64 r0_i, .int .i64 r0_h]))
  | _ => none
noncomputable def spec_l1New_l0 (A : PM.Prims) : Nat → (List Int) → (Int) → (Int) → ((List Int) → (Int) → PM.R) → PM.R
  | 0, _, _, _, _ => none
  | n + 1, code1, h2, i3, kx0_0 =>
    bif (A.lt i3 (A.ilen code1)) then
      bif (A.lt i3 4000) then
        bif (A.inb i3 (A.ilen code1)) then
          spec_l1New_l0 A n code1 (A.bits .and .i64 (A.add .i64 (A.add .i64 (A.mul .i64 h2 131) (A.wrap .i64 (A.iget code1 i3))) 7) 1073741823) (A.add .i64 i3 1) kx0_0
        else
          none
      else
        kx0_0 code1 h2
    else
      kx0_0 code1 h2
noncomputable def spec_l1New_f (A : PM.Prims) (code : List Int) (k : (List Int) → (Int) → (Int) → PM.R) : PM.R :=
  spec_l1New_l0 A A.fuel code (A.add .i64 10101 (A.ilen code)) 0 (fun code46 h57 =>
    k code46 0 h57)
noncomputable def spec_l1New (A : PM.Prims) : spec_l1New_T := spec_l1New_f A
noncomputable def spec_l1New_L (A : PM.Prims) (n : Nat) : PM.Lam := fun cur σ K =>
  match cur, σ, K with
  | 0, ⟨[(0, .arr (.ints 5 .u8 code1)), (3, .int .i64 h2), (4, .int .i64 i3)], []⟩, K => spec_l1New_l0 A n code1 h2 i3 (fun code4 h5 => K (.exit 0) ⟨[(0, .arr (.ints 5 .u8 code4)), (3, .int .i64 h5)], []⟩)
  | _, _, _ => none
noncomputable def spec_l1New_E (A : PM.Prims) : PM.Env := ⟨[], [], [(0, [0, 3, 4], [0, 2, 3])], [(0, [0]), (1, [0, 3]), (2, [0, 3, 4]), (3, [0, 3, 4, 15]), (4, [0, 3, 4]), (5, [0, 3, 4]), (6, [2])], spec_l1New_L A A.fuel⟩
theorem spec_l1New_l0_ok (A : PM.Prims) (n : Nat) (code1 : List Int) (h2 : Int) (i3 : Int) (K : Go.Exit → PM.S → PM.R) : spec_l1New_L A (n + 1) 0 ⟨[(0, .arr (.ints 5 .u8 code1)), (3, .int .i64 h2), (4, .int .i64 i3)], []⟩ K = PM.roundF A cx (PM.runD A cx (spec_l1New_E A).inl (spec_l1New_E A).Γ 3) (spec_l1New_E A) (spec_l1New_L A n) 0 Go.Proofs.Try.f26 ⟨[(0, .arr (.ints 5 .u8 code1)), (3, .int .i64 h2), (4, .int .i64 i3)], []⟩ K := by kernel_rfl
theorem spec_l1New_ok (A : PM.Prims) (code : List Int) (k : PM.V → PM.R) : PM.pfunN A cx (spec_l1New_E A) Go.Proofs.Try.f26 [.arr (.ints 5 .u8 code)] k = spec_l1New_f A code (fun r0_b r0_i r0_h => k (.tup [.arr (.ints 5 .u8 r0_b), .int .i64 r0_i, .int .i64 r0_h])) := by kernel_rfl

theorem spec_l1New_fn : PM.FnIs Try.prog 26 Try.f26 := .of Try.func26 (by kernel_rfl) (by kernel_rfl)
theorem spec_l1New_g : PM.GOk Try.prog cx 26 ⟨[], fun _ _ => none, some (PM.spNew (spec_l1New_w (spec_l1New PM.std)))⟩ := by
  refine PM.GOk.ofS spec_l1New_fn.enter (PM.spNew_ok fun ds k r h => ?_)
  change spec_l1New_w (spec_l1New PM.std) ds k = some r at h
  unfold spec_l1New_w at h
  split at h
  · exact PM.pfunN_ok (E := spec_l1New_E PM.std) (L := fun n => spec_l1New_L PM.std n) (N := PM.std.fuel) cx_ok .nil mixed .nil spec_l1New_fn (by kernel_rfl) ⟨rfl, fun cur σ K => by
      dsimp only [spec_l1New_L]
      split <;> rfl, fun n cur σ K r h => by
      dsimp only [spec_l1New_L] at h
      split at h
      · exact (spec_l1New_l0_ok PM.std n _ _ _ K).symm.trans h
      · cases h⟩
      ((spec_l1New_ok PM.std _ k).trans h)
  · cases h

abbrev spec_SlotNew_T := ((List Int) → PM.R) → PM.R
noncomputable def spec_SlotNew_w (c : spec_SlotNew_T) (ds : List PM.V) (k : PM.V → PM.R) : PM.R :=
  match ds with
  | [] => c (fun r0 => k (.arr (.ints 3 .i64 r0)))
  | _ => none
noncomputable def spec_SlotNew_f (A : PM.Prims) (k : (List Int) → PM.R) : PM.R :=
  bif (A.mkOk 16) then
    bif (A.le 16 16) then
      bif (A.mkOk 16) then
        k (A.izero 16)
      else
        none
    else
      none
  else
    none
noncomputable def spec_SlotNew (A : PM.Prims) : spec_SlotNew_T := spec_SlotNew_f A
noncomputable def spec_SlotNew_L (A : PM.Prims) (n : Nat) : PM.Lam := fun cur σ K =>
  match cur, σ, K with
  | _, _, _ => none
noncomputable def spec_SlotNew_E (A : PM.Prims) : PM.Env := ⟨[], [], [], [(0, []), (1, [0])], spec_SlotNew_L A A.fuel⟩
theorem spec_SlotNew_ok (A : PM.Prims) (k : PM.V → PM.R) : PM.pfun A cx [] (spec_SlotNew_E A) Go.Proofs.Try.f75 [] k = spec_SlotNew_f A (fun r0 => k (.arr (.ints 3 .i64 r0))) := by kernel_rfl

theorem spec_SlotNew_fn : PM.FnIs Try.prog 75 Try.f75 := .of Try.func75 (by kernel_rfl) (by kernel_rfl)
theorem spec_SlotNew_g : PM.GOk Try.prog cx 75 ⟨[], spec_SlotNew_w (spec_SlotNew PM.std), none⟩ := by
  refine ⟨spec_SlotNew_fn.enter, fun _ ds k r h => ?_, fun hm => absurd rfl hm, fun _ e => (by cases e)⟩
  change spec_SlotNew_w (spec_SlotNew PM.std) ds k = some r at h
  unfold spec_SlotNew_w at h
  split at h
  · exact PM.pfun_ok (E := spec_SlotNew_E PM.std) (L := fun n => spec_SlotNew_L PM.std n) (N := PM.std.fuel) cx_ok .nil mixed .nil spec_SlotNew_fn (by kernel_rfl) ⟨rfl, fun _ _ _ => rfl, fun n cur σ K r h => by cases h⟩
      ((spec_SlotNew_ok PM.std k).trans h)
  · cases h

abbrev spec_l1Byte_T := (List Int) → (Int) → (Int) → ((Int) → (List Int) → (Int) → (Int) → PM.R) → PM.R
noncomputable def spec_l1Byte_w (c : spec_l1Byte_T) (ds : List PM.V) (k : PM.V → PM.R) : PM.R :=
  match ds with
  | [.tup [.arr (.ints 5 .u8 c_b), .int .i64 c_i, .int .i64 c_h]] => c c_b c_i c_h (fun r0 bx_b bx_i bx_h => k (.tup [.int .i64 r0, .tup [.arr (.ints 5 .u8 bx_b), .int .i64 bx_i, .int .i64 bx_h]]))
  | _ => none
noncomputable def spec_l1Byte_f (A : PM.Prims) (c_b : List Int) (c_i : Int) (c_h : Int) (k : (Int) → (List Int) → (Int) → (Int) → PM.R) : PM.R :=
  bif (A.shOk .i64 33) then
    bif (A.shOk .i64 45) then
      bif (A.lt c_i (A.ilen c_b)) then
        bif (A.inb c_i (A.ilen c_b)) then
          k (A.bits .and .i64 (A.add .i64 (A.bits .and .i64 (A.bits .xor .i64 (A.shift .shr .i64 (A.add .i64 (A.mul .i64 c_h 6364136223846793005) 1442695040888963407) 33) (A.shift .shr .i64 (A.add .i64 (A.mul .i64 c_h 6364136223846793005) 1442695040888963407) 45)) 255) (A.wrap .i64 (A.iget c_b c_i))) 255) c_b (A.add .i64 c_i 1) (A.add .i64 (A.mul .i64 c_h 6364136223846793005) 1442695040888963407)
        else
          none
      else
        k (A.bits .and .i64 (A.bits .xor .i64 (A.shift .shr .i64 (A.add .i64 (A.mul .i64 c_h 6364136223846793005) 1442695040888963407) 33) (A.shift .shr .i64 (A.add .i64 (A.mul .i64 c_h 6364136223846793005) 1442695040888963407) 45)) 255) c_b c_i (A.add .i64 (A.mul .i64 c_h 6364136223846793005) 1442695040888963407)
    else
      none
  else
    none
noncomputable def spec_l1Byte (A : PM.Prims) : spec_l1Byte_T := spec_l1Byte_f A
noncomputable def spec_l1Byte_L (A : PM.Prims) (n : Nat) : PM.Lam := fun cur σ K =>
  match cur, σ, K with
  | _, _, _ => none
noncomputable def spec_l1Byte_E (A : PM.Prims) : PM.Env := ⟨[], [], [], [(0, [0]), (1, [0]), (2, [0, 3]), (3, [0, 3, 34]), (4, [0, 3]), (5, [0, 3]), (6, [0, 2])], spec_l1Byte_L A A.fuel⟩
theorem spec_l1Byte_ok (A : PM.Prims) (c_b : List Int) (c_i : Int) (c_h : Int) (k : PM.V → PM.R) : PM.pfunB A cx (spec_l1Byte_E A) Go.Proofs.Try.f69 [.tup [.arr (.ints 5 .u8 c_b), .int .i64 c_i, .int .i64 c_h]] k = spec_l1Byte_f A c_b c_i c_h (fun r0 bx_b bx_i bx_h => k (.tup [.int .i64 r0, .tup [.arr (.ints 5 .u8 bx_b), .int .i64 bx_i, .int .i64 bx_h]])) := by kernel_rfl

theorem spec_l1Byte_fn : PM.FnIs Try.prog 69 Try.f69 := .of Try.func69 (by kernel_rfl) (by kernel_rfl)
theorem spec_l1Byte_g : PM.GOk Try.prog cx 69 ⟨[], fun _ _ => none, some (PM.spBox (spec_l1Byte_w (spec_l1Byte PM.std)))⟩ := by
  refine PM.GOk.ofS spec_l1Byte_fn.enter (PM.spBox_ok fun ds k r h => ?_)
  change spec_l1Byte_w (spec_l1Byte PM.std) ds k = some r at h
  unfold spec_l1Byte_w at h
  split at h
  · exact PM.pfunB_ok (E := spec_l1Byte_E PM.std) (L := fun n => spec_l1Byte_L PM.std n) (N := PM.std.fuel) cx_ok .nil mixed .nil spec_l1Byte_fn (by kernel_rfl) ⟨rfl, fun _ _ _ => rfl, fun n cur σ K r h => by cases h⟩
      ((spec_l1Byte_ok PM.std _ _ _ k).trans h)
  · cases h

abbrev spec_l1Below_T := (List Int) → (Int) → (Int) → (Int) → ((Int) → (List Int) → (Int) → (Int) → PM.R) → PM.R
noncomputable def spec_l1Below_w (c : spec_l1Below_T) (ds : List PM.V) (k : PM.V → PM.R) : PM.R :=
  match ds with
  | [.tup [.arr (.ints 5 .u8 c_b), .int .i64 c_i, .int .i64 c_h], .int .i64 n_] => c c_b c_i c_h n_ (fun r0 bx_b bx_i bx_h => k (.tup [.int .i64 r0, .tup [.arr (.ints 5 .u8 bx_b), .int .i64 bx_i, .int .i64 bx_h]]))
  | _ => none
noncomputable def spec_l1Below_f (A : PM.Prims) (c_69 : spec_l1Byte_T) (c_b : List Int) (c_i : Int) (c_h : Int) (n_ : Int) (k : (Int) → (List Int) → (Int) → (Int) → PM.R) : PM.R :=
  bif (A.le n_ 0) then
    k 0 c_b c_i c_h
  else
    bif (A.le n_ 256) then
      c_69 c_b c_i c_h (fun r1 r2 r3 r4 =>
        bif (A.nz n_) then
          k (A.rem .i64 r1 n_) r2 r3 r4
        else
          none)
    else
      c_69 c_b c_i c_h (fun r5 r6 r7 r8 =>
        c_69 r6 r7 r8 (fun r9 r10 r11 r12 =>
          c_69 r10 r11 r12 (fun r13 r14 r15 r16 =>
            c_69 r14 r15 r16 (fun r17 r18 r19 r20 =>
              bif (A.nz n_) then
                k (A.rem .i64 (A.add .i64 (A.add .i64 (A.add .i64 (A.mul .i64 r5 16777216) (A.mul .i64 r9 65536)) (A.mul .i64 r13 256)) r17) n_) r18 r19 r20
              else
                none))))
noncomputable def spec_l1Below (A : PM.Prims) : spec_l1Below_T := spec_l1Below_f A (spec_l1Byte A)
noncomputable def spec_l1Below_L (A : PM.Prims) (c_69 : spec_l1Byte_T) (n : Nat) : PM.Lam := fun cur σ K =>
  match cur, σ, K with
  | _, _, _ => none
noncomputable def spec_l1Below_E (A : PM.Prims) (c_69 : spec_l1Byte_T) : PM.Env := ⟨[(69, ⟨[], fun _ _ => none, some (PM.spBox (spec_l1Byte_w c_69))⟩)], [], [], [(0, [0, 1]), (1, [0, 1, 10]), (2, [0, 4]), (3, [0, 1, 12]), (4, [0, 4]), (5, [0, 1, 5]), (6, [0, 1, 5, 6]), (7, [0, 1, 5, 6, 7]), (8, [0, 1, 5, 6, 7, 8]), (9, [0, 4])], spec_l1Below_L A c_69 A.fuel⟩
theorem spec_l1Below_ok (A : PM.Prims) (c_69 : spec_l1Byte_T) (c_b : List Int) (c_i : Int) (c_h : Int) (n_ : Int) (k : PM.V → PM.R) : PM.pfunB A cx (spec_l1Below_E A c_69) Go.Proofs.Try.f43 [.tup [.arr (.ints 5 .u8 c_b), .int .i64 c_i, .int .i64 c_h], .int .i64 n_] k = spec_l1Below_f A c_69 c_b c_i c_h n_ (fun r0 bx_b bx_i bx_h => k (.tup [.int .i64 r0, .tup [.arr (.ints 5 .u8 bx_b), .int .i64 bx_i, .int .i64 bx_h]])) := by kernel_rfl

theorem spec_l1Below_fn : PM.FnIs Try.prog 43 Try.f43 := .of Try.func43 (by kernel_rfl) (by kernel_rfl)
theorem spec_l1Below_g : PM.GOk Try.prog cx 43 ⟨[], fun _ _ => none, some (PM.spBox (spec_l1Below_w (spec_l1Below PM.std)))⟩ := by
  refine PM.GOk.ofS spec_l1Below_fn.enter (PM.spBox_ok fun ds k r h => ?_)
  change spec_l1Below_w (spec_l1Below PM.std) ds k = some r at h
  unfold spec_l1Below_w at h
  split at h
  · exact PM.pfunB_ok (E := spec_l1Below_E PM.std (spec_l1Byte PM.std)) (L := fun n => spec_l1Below_L PM.std (spec_l1Byte PM.std) n) (N := PM.std.fuel) cx_ok (.cons spec_l1Byte_g .nil) mixed .nil spec_l1Below_fn (by kernel_rfl) ⟨rfl, fun _ _ _ => rfl, fun n cur σ K r h => by cases h⟩
      ((spec_l1Below_ok PM.std (spec_l1Byte PM.std) _ _ _ _ k).trans h)
  · cases h

abbrev spec_l1Once_T := (List Int) → (Int) → (Int) → (Int) → ((Bool) → (List Int) → (Int) → (Int) → PM.R) → PM.R
noncomputable def spec_l1Once_w (c : spec_l1Once_T) (ds : List PM.V) (k : PM.V → PM.R) : PM.R :=
  match ds with
  | [.tup [.arr (.ints 5 .u8 c_b), .int .i64 c_i, .int .i64 c_h], .int .i64 n_] => c c_b c_i c_h n_ (fun r0 bx_b bx_i bx_h => k (.tup [.bool r0, .tup [.arr (.ints 5 .u8 bx_b), .int .i64 bx_i, .int .i64 bx_h]]))
  | _ => none
noncomputable def spec_l1Once_f (A : PM.Prims) (c_43 : spec_l1Below_T) (c_b : List Int) (c_i : Int) (c_h : Int) (n_ : Int) (k : (Bool) → (List Int) → (Int) → (Int) → PM.R) : PM.R :=
  c_43 c_b c_i c_h n_ (fun r1 r2 r3 r4 =>
    k (A.eq r1 0) r2 r3 r4)
noncomputable def spec_l1Once (A : PM.Prims) : spec_l1Once_T := spec_l1Once_f A (spec_l1Below A)
noncomputable def spec_l1Once_L (A : PM.Prims) (c_43 : spec_l1Below_T) (n : Nat) : PM.Lam := fun cur σ K =>
  match cur, σ, K with
  | _, _, _ => none
noncomputable def spec_l1Once_E (A : PM.Prims) (c_43 : spec_l1Below_T) : PM.Env := ⟨[(43, ⟨[], fun _ _ => none, some (PM.spBox (spec_l1Below_w c_43))⟩)], [], [], [(0, [0, 1]), (1, [0, 4])], spec_l1Once_L A c_43 A.fuel⟩
theorem spec_l1Once_ok (A : PM.Prims) (c_43 : spec_l1Below_T) (c_b : List Int) (c_i : Int) (c_h : Int) (n_ : Int) (k : PM.V → PM.R) : PM.pfunB A cx (spec_l1Once_E A c_43) Go.Proofs.Try.f44 [.tup [.arr (.ints 5 .u8 c_b), .int .i64 c_i, .int .i64 c_h], .int .i64 n_] k = spec_l1Once_f A c_43 c_b c_i c_h n_ (fun r0 bx_b bx_i bx_h => k (.tup [.bool r0, .tup [.arr (.ints 5 .u8 bx_b), .int .i64 bx_i, .int .i64 bx_h]])) := by kernel_rfl

theorem spec_l1Once_fn : PM.FnIs Try.prog 44 Try.f44 := .of Try.func44 (by kernel_rfl) (by kernel_rfl)
theorem spec_l1Once_g : PM.GOk Try.prog cx 44 ⟨[], fun _ _ => none, some (PM.spBox (spec_l1Once_w (spec_l1Once PM.std)))⟩ := by
  refine PM.GOk.ofS spec_l1Once_fn.enter (PM.spBox_ok fun ds k r h => ?_)
  change spec_l1Once_w (spec_l1Once PM.std) ds k = some r at h
  unfold spec_l1Once_w at h
  split at h
  · exact PM.pfunB_ok (E := spec_l1Once_E PM.std (spec_l1Below PM.std)) (L := fun n => spec_l1Once_L PM.std (spec_l1Below PM.std) n) (N := PM.std.fuel) cx_ok (.cons spec_l1Below_g .nil) mixed .nil spec_l1Once_fn (by kernel_rfl) ⟨rfl, fun _ _ _ => rfl, fun n cur σ K r h => by cases h⟩
      ((spec_l1Once_ok PM.std (spec_l1Below PM.std) _ _ _ _ k).trans h)
  · cases h

abbrev spec_l15Ints_T := (List Int) → ((List Int) → PM.R) → PM.R
noncomputable def spec_l15Ints_w (c : spec_l15Ints_T) (ds : List PM.V) (k : PM.V → PM.R) : PM.R :=
  match ds with
  | [.arr (.ints 3 .i64 l)] => c l (fun r0 => k (.arr (.ints 3 .i64 r0)))
  | _ => none
noncomputable def spec_l15Ints_f (A : PM.Prims) (l : List Int) (k : (List Int) → PM.R) : PM.R :=
  bif (A.room (A.ilen []) (A.ilen l)) then
    k (A.iapp [] l)
  else
    none
noncomputable def spec_l15Ints (A : PM.Prims) : spec_l15Ints_T := spec_l15Ints_f A
noncomputable def spec_l15Ints_L (A : PM.Prims) (n : Nat) : PM.Lam := fun cur σ K =>
  match cur, σ, K with
  | _, _, _ => none
noncomputable def spec_l15Ints_E (A : PM.Prims) : PM.Env := ⟨[], [], [], [(0, [0]), (1, [2])], spec_l15Ints_L A A.fuel⟩
theorem spec_l15Ints_ok (A : PM.Prims) (l : List Int) (k : PM.V → PM.R) : PM.pfun A cx [] (spec_l15Ints_E A) Go.Proofs.Try.f56 [.arr (.ints 3 .i64 l)] k = spec_l15Ints_f A l (fun r0 => k (.arr (.ints 3 .i64 r0))) := by kernel_rfl

theorem spec_l15Ints_fn : PM.FnIs Try.prog 56 Try.f56 := .of Try.func56 (by kernel_rfl) (by kernel_rfl)
theorem spec_l15Ints_g : PM.GOk Try.prog cx 56 ⟨[], spec_l15Ints_w (spec_l15Ints PM.std), none⟩ := by
  refine ⟨spec_l15Ints_fn.enter, fun _ ds k r h => ?_, fun hm => absurd rfl hm, fun _ e => (by cases e)⟩
  change spec_l15Ints_w (spec_l15Ints PM.std) ds k = some r at h
  unfold spec_l15Ints_w at h
  split at h
  · exact PM.pfun_ok (E := spec_l15Ints_E PM.std) (L := fun n => spec_l15Ints_L PM.std n) (N := PM.std.fuel) cx_ok .nil mixed .nil spec_l15Ints_fn (by kernel_rfl) ⟨rfl, fun _ _ _ => rfl, fun n cur σ K r h => by cases h⟩
      ((spec_l15Ints_ok PM.std _ k).trans h)
  · cases h

abbrev spec_l1In_T := (Int) → (Int) → (Int) → ((Bool) → PM.R) → PM.R
noncomputable def spec_l1In_w (c : spec_l1In_T) (ds : List PM.V) (k : PM.V → PM.R) : PM.R :=
  match ds with
  | [.int .i64 x, .int .i64 low, .int .i64 high] => c x low high (fun r0 => k (.bool r0))
  | _ => none
noncomputable def spec_l1In_f (A : PM.Prims) (x : Int) (low : Int) (high : Int) (k : (Bool) → PM.R) : PM.R :=
  bif (A.le low x) then
    k (A.le x high)
  else
    k false
noncomputable def spec_l1In (A : PM.Prims) : spec_l1In_T := spec_l1In_f A
noncomputable def spec_l1In_L (A : PM.Prims) (n : Nat) : PM.Lam := fun cur σ K =>
  match cur, σ, K with
  | _, _, _ => none
noncomputable def spec_l1In_E (A : PM.Prims) : PM.Env := ⟨[], [], [], [(0, [0, 1, 2]), (1, [6])], spec_l1In_L A A.fuel⟩
theorem spec_l1In_ok (A : PM.Prims) (x : Int) (low : Int) (high : Int) (k : PM.V → PM.R) : PM.pfun A cx [] (spec_l1In_E A) Go.Proofs.Try.f36 [.int .i64 x, .int .i64 low, .int .i64 high] k = spec_l1In_f A x low high (fun r0 => k (.bool r0)) := by kernel_rfl

theorem spec_l1In_fn : PM.FnIs Try.prog 36 Try.f36 := .of Try.func36 (by kernel_rfl) (by kernel_rfl)
theorem spec_l1In_g : PM.GOk Try.prog cx 36 ⟨[], spec_l1In_w (spec_l1In PM.std), none⟩ := by
  refine ⟨spec_l1In_fn.enter, fun _ ds k r h => ?_, fun hm => absurd rfl hm, fun _ e => (by cases e)⟩
  change spec_l1In_w (spec_l1In PM.std) ds k = some r at h
  unfold spec_l1In_w at h
  split at h
  · exact PM.pfun_ok (E := spec_l1In_E PM.std) (L := fun n => spec_l1In_L PM.std n) (N := PM.std.fuel) cx_ok .nil mixed .nil spec_l1In_fn (by kernel_rfl) ⟨rfl, fun _ _ _ => rfl, fun n cur σ K r h => by cases h⟩
      ((spec_l1In_ok PM.std _ _ _ k).trans h)
  · cases h

abbrev spec_l15Slot_T := (Int) → ((Int) → (Int) → PM.R) → PM.R
noncomputable def spec_l15Slot_w (c : spec_l15Slot_T) (ds : List PM.V) (k : PM.V → PM.R) : PM.R :=
  match ds with
  | [.int .i64 s] => c s (fun r0 r1 => k (.tup [.int .i64 r0, .int .i64 r1]))
  | _ => none
noncomputable def spec_l15Slot_f (A : PM.Prims) (s : Int) (k : (Int) → (Int) → PM.R) : PM.R :=
  bif (A.eq s 0) then
    k (-1) 0
  else
    bif (A.nz 65536) then
      bif (A.nz 65536) then
        k (A.quo .i64 (A.sub .i64 s 1) 65536) (A.rem .i64 (A.sub .i64 s 1) 65536)
      else
        none
    else
      none
noncomputable def spec_l15Slot (A : PM.Prims) : spec_l15Slot_T := spec_l15Slot_f A
noncomputable def spec_l15Slot_L (A : PM.Prims) (n : Nat) : PM.Lam := fun cur σ K =>
  match cur, σ, K with
  | _, _, _ => none
noncomputable def spec_l15Slot_E (A : PM.Prims) : PM.Env := ⟨[], [], [], [(0, [0]), (1, [0, 5]), (2, [2, 3]), (3, [2, 3])], spec_l15Slot_L A A.fuel⟩
theorem spec_l15Slot_ok (A : PM.Prims) (s : Int) (k : PM.V → PM.R) : PM.pfun A cx [] (spec_l15Slot_E A) Go.Proofs.Try.f37 [.int .i64 s] k = spec_l15Slot_f A s (fun r0 r1 => k (.tup [.int .i64 r0, .int .i64 r1])) := by kernel_rfl

theorem spec_l15Slot_fn : PM.FnIs Try.prog 37 Try.f37 := .of Try.func37 (by kernel_rfl) (by kernel_rfl)
theorem spec_l15Slot_g : PM.GOk Try.prog cx 37 ⟨[], spec_l15Slot_w (spec_l15Slot PM.std), none⟩ := by
  refine ⟨spec_l15Slot_fn.enter, fun _ ds k r h => ?_, fun hm => absurd rfl hm, fun _ e => (by cases e)⟩
  change spec_l15Slot_w (spec_l15Slot PM.std) ds k = some r at h
  unfold spec_l15Slot_w at h
  split at h
  · exact PM.pfun_ok (E := spec_l15Slot_E PM.std) (L := fun n => spec_l15Slot_L PM.std n) (N := PM.std.fuel) cx_ok .nil mixed .nil spec_l15Slot_fn (by kernel_rfl) ⟨rfl, fun _ _ _ => rfl, fun n cur σ K r h => by cases h⟩
      ((spec_l15Slot_ok PM.std _ k).trans h)
  · cases h

abbrev spec_l15Key_T := (Int) → ((Bool) → PM.R) → PM.R
noncomputable def spec_l15Key_w (c : spec_l15Key_T) (ds : List PM.V) (k : PM.V → PM.R) : PM.R :=
  match ds with
  | [.int .i64 k_] => c k_ (fun r0 => k (.bool r0))
  | _ => none
noncomputable def spec_l15Key_f (A : PM.Prims) (c_36 : spec_l1In_T) (k_ : Int) (k : (Bool) → PM.R) : PM.R :=
  c_36 k_ 0 7 (fun r1 =>
    k r1)
noncomputable def spec_l15Key (A : PM.Prims) : spec_l15Key_T := spec_l15Key_f A (spec_l1In A)
noncomputable def spec_l15Key_L (A : PM.Prims) (c_36 : spec_l1In_T) (n : Nat) : PM.Lam := fun cur σ K =>
  match cur, σ, K with
  | _, _, _ => none
noncomputable def spec_l15Key_E (A : PM.Prims) (c_36 : spec_l1In_T) : PM.Env := ⟨[(36, ⟨[], spec_l1In_w c_36, none⟩)], [], [], [(0, [0]), (1, [2])], spec_l15Key_L A c_36 A.fuel⟩
theorem spec_l15Key_ok (A : PM.Prims) (c_36 : spec_l1In_T) (k_ : Int) (k : PM.V → PM.R) : PM.pfun A cx [] (spec_l15Key_E A c_36) Go.Proofs.Try.f65 [.int .i64 k_] k = spec_l15Key_f A c_36 k_ (fun r0 => k (.bool r0)) := by kernel_rfl

theorem spec_l15Key_fn : PM.FnIs Try.prog 65 Try.f65 := .of Try.func65 (by kernel_rfl) (by kernel_rfl)
theorem spec_l15Key_g : PM.GOk Try.prog cx 65 ⟨[], spec_l15Key_w (spec_l15Key PM.std), none⟩ := by
  refine ⟨spec_l15Key_fn.enter, fun _ ds k r h => ?_, fun hm => absurd rfl hm, fun _ e => (by cases e)⟩
  change spec_l15Key_w (spec_l15Key PM.std) ds k = some r at h
  unfold spec_l15Key_w at h
  split at h
  · exact PM.pfun_ok (E := spec_l15Key_E PM.std (spec_l1In PM.std)) (L := fun n => spec_l15Key_L PM.std (spec_l1In PM.std) n) (N := PM.std.fuel) cx_ok (.cons spec_l1In_g .nil) mixed .nil spec_l15Key_fn (by kernel_rfl) ⟨rfl, fun _ _ _ => rfl, fun n cur σ K r h => by cases h⟩
      ((spec_l15Key_ok PM.std (spec_l1In PM.std) _ k).trans h)
  · cases h

abbrev spec_BucketOf_T := (Int) → ((Int) → PM.R) → PM.R
noncomputable def spec_BucketOf_w (c : spec_BucketOf_T) (ds : List PM.V) (k : PM.V → PM.R) : PM.R :=
  match ds with
  | [.int .i64 key] => c key (fun r0 => k (.int .i64 r0))
  | _ => none
noncomputable def spec_BucketOf_f (A : PM.Prims) (c_65 : spec_l15Key_T) (key : Int) (k : (Int) → PM.R) : PM.R :=
  c_65 key (fun r1 =>
    bif (A.not r1) then
      k (-1)
    else
      bif (A.nz 4) then
        k (A.rem .i64 (A.add .i64 (A.mul .i64 key 7) 3) 4)
      else
        none)
noncomputable def spec_BucketOf (A : PM.Prims) : spec_BucketOf_T := spec_BucketOf_f A (spec_l15Key A)
noncomputable def spec_BucketOf_L (A : PM.Prims) (c_65 : spec_l15Key_T) (n : Nat) : PM.Lam := fun cur σ K =>
  match cur, σ, K with
  | _, _, _ => none
noncomputable def spec_BucketOf_E (A : PM.Prims) (c_65 : spec_l15Key_T) : PM.Env := ⟨[(65, ⟨[], spec_l15Key_w c_65, none⟩)], [], [], [(0, [0]), (1, [0, 5]), (2, [2]), (3, [2])], spec_BucketOf_L A c_65 A.fuel⟩
theorem spec_BucketOf_ok (A : PM.Prims) (c_65 : spec_l15Key_T) (key : Int) (k : PM.V → PM.R) : PM.pfun A cx [] (spec_BucketOf_E A c_65) Go.Proofs.Try.f38 [.int .i64 key] k = spec_BucketOf_f A c_65 key (fun r0 => k (.int .i64 r0)) := by kernel_rfl

theorem spec_BucketOf_fn : PM.FnIs Try.prog 38 Try.f38 := .of Try.func38 (by kernel_rfl) (by kernel_rfl)
theorem spec_BucketOf_g : PM.GOk Try.prog cx 38 ⟨[], spec_BucketOf_w (spec_BucketOf PM.std), none⟩ := by
  refine ⟨spec_BucketOf_fn.enter, fun _ ds k r h => ?_, fun hm => absurd rfl hm, fun _ e => (by cases e)⟩
  change spec_BucketOf_w (spec_BucketOf PM.std) ds k = some r at h
  unfold spec_BucketOf_w at h
  split at h
  · exact PM.pfun_ok (E := spec_BucketOf_E PM.std (spec_l15Key PM.std)) (L := fun n => spec_BucketOf_L PM.std (spec_l15Key PM.std) n) (N := PM.std.fuel) cx_ok (.cons spec_l15Key_g .nil) mixed .nil spec_BucketOf_fn (by kernel_rfl) ⟨rfl, fun _ _ _ => rfl, fun n cur σ K r h => by cases h⟩
      ((spec_BucketOf_ok PM.std (spec_l15Key PM.std) _ k).trans h)
  · cases h

abbrev spec_SlotsOk_T := (List Int) → ((Bool) → PM.R) → PM.R
noncomputable def spec_SlotsOk_w (c : spec_SlotsOk_T) (ds : List PM.V) (k : PM.V → PM.R) : PM.R :=
  match ds with
  | [.arr (.ints 3 .i64 l)] => c l (fun r0 => k (.bool r0))
  | _ => none
noncomputable def spec_SlotsOk_l0 (A : PM.Prims) (c_36 : spec_l1In_T) (c_37 : spec_l15Slot_T) (c_38 : spec_BucketOf_T) : Nat → (List Int) → (Int) → (List Bool) → ((Bool) → PM.R) → (Unit → PM.R) → PM.R
  | 0, _, _, _, _, _ => none
  | n + 1, l1, i2, o03, kret_0, kx0_0 =>
    bif (A.lt i2 (A.ilen l1)) then
      bif (A.inb i2 (A.ilen l1)) then
        c_36 (A.iget l1 i2) 0 524288 (fun r4 =>
          bif (A.not r4) then
            kret_0 false
          else
            bif (A.inb i2 (A.ilen l1)) then
              c_37 (A.iget l1 i2) (fun r6 r7 =>
                bif (A.lt r6 0) then
                  spec_SlotsOk_l0 A c_36 c_37 c_38 n l1 (A.add .i64 i2 1) o03 kret_0 kx0_0
                else
                  bif (A.inb r6 (A.blen o03)) then
                    bif (A.bget o03 r6) then
                      kret_0 false
                    else
                      c_38 r6 (fun r8 =>
                        bif (A.nz 4) then
                          bif (A.not (A.eq r8 (A.quo .i64 i2 4))) then
                            kret_0 false
                          else
                            bif (A.inb r6 (A.blen o03)) then
                              spec_SlotsOk_l0 A c_36 c_37 c_38 n l1 (A.add .i64 i2 1) (A.bset o03 r6 true) kret_0 kx0_0
                            else
                              none
                        else
                          none)
                  else
                    none)
            else
              none)
      else
        none
    else
      kx0_0 ()
noncomputable def spec_SlotsOk_f (A : PM.Prims) (c_36 : spec_l1In_T) (c_37 : spec_l15Slot_T) (c_38 : spec_BucketOf_T) (l : List Int) (k : (Bool) → PM.R) : PM.R :=
  bif (A.not (A.eq (A.ilen l) 16)) then
    k false
  else
    bif (A.mkOk 8) then
      bif (A.le 8 8) then
        bif (A.mkOk 8) then
          spec_SlotsOk_l0 A c_36 c_37 c_38 A.fuel l 0 (A.bzero 8) (fun t259 =>
            k t259) (fun _ =>
            k true)
        else
          none
      else
        none
    else
      none
noncomputable def spec_SlotsOk (A : PM.Prims) : spec_SlotsOk_T := spec_SlotsOk_f A (spec_l1In A) (spec_l15Slot A) (spec_BucketOf A)
noncomputable def spec_SlotsOk_L (A : PM.Prims) (c_36 : spec_l1In_T) (c_37 : spec_l15Slot_T) (c_38 : spec_BucketOf_T) (n : Nat) : PM.Lam := fun cur σ K =>
  match cur, σ, K with
  | 0, ⟨[(0, .arr (.ints 3 .i64 l1)), (3, .sref 0), (4, .int .i64 i2)], [(0, .arr true (.bools 4 o03))]⟩, K => spec_SlotsOk_l0 A c_36 c_37 c_38 n l1 i2 o03 (fun t25 => K .ret ⟨[(2, .bool t25)], []⟩) (fun _ => K (.exit 0) ⟨[], []⟩)
  | _, _, _ => none
noncomputable def spec_SlotsOk_E (A : PM.Prims) (c_36 : spec_l1In_T) (c_37 : spec_l15Slot_T) (c_38 : spec_BucketOf_T) : PM.Env := ⟨[(36, ⟨[], spec_l1In_w c_36, none⟩), (37, ⟨[], spec_l15Slot_w c_37, none⟩), (38, ⟨[], spec_BucketOf_w c_38, none⟩)], [], [(0, [0, 3, 4], [2])], [(0, [0]), (1, [0, 9]), (2, [2]), (3, [0, 3]), (4, [0, 3, 4]), (5, [0, 3, 4, 14]), (6, [0, 3, 4]), (7, [0, 3, 4, 22]), (8, [2]), (9, [0, 3, 4, 5]), (10, [0, 3, 4, 5, 32]), (11, [0, 3, 4, 5, 43]), (12, [2]), (13, [0, 3, 4]), (14, [2])], spec_SlotsOk_L A c_36 c_37 c_38 A.fuel⟩
theorem spec_SlotsOk_l0_ok (A : PM.Prims) (c_36 : spec_l1In_T) (c_37 : spec_l15Slot_T) (c_38 : spec_BucketOf_T) (n : Nat) (l1 : List Int) (i2 : Int) (o03 : List Bool) (K : Go.Exit → PM.S → PM.R) : spec_SlotsOk_L A c_36 c_37 c_38 (n + 1) 0 ⟨[(0, .arr (.ints 3 .i64 l1)), (3, .sref 0), (4, .int .i64 i2)], [(0, .arr true (.bools 4 o03))]⟩ K = PM.roundF A cx (PM.runD A cx (spec_SlotsOk_E A c_36 c_37 c_38).inl (spec_SlotsOk_E A c_36 c_37 c_38).Γ 3) (spec_SlotsOk_E A c_36 c_37 c_38) (spec_SlotsOk_L A c_36 c_37 c_38 n) 0 Go.Proofs.Try.f9 ⟨[(0, .arr (.ints 3 .i64 l1)), (3, .sref 0), (4, .int .i64 i2)], [(0, .arr true (.bools 4 o03))]⟩ K := by kernel_rfl
theorem spec_SlotsOk_ok (A : PM.Prims) (c_36 : spec_l1In_T) (c_37 : spec_l15Slot_T) (c_38 : spec_BucketOf_T) (l : List Int) (k : PM.V → PM.R) : PM.pfun A cx [] (spec_SlotsOk_E A c_36 c_37 c_38) Go.Proofs.Try.f9 [.arr (.ints 3 .i64 l)] k = spec_SlotsOk_f A c_36 c_37 c_38 l (fun r0 => k (.bool r0)) := by kernel_rfl

theorem spec_SlotsOk_fn : PM.FnIs Try.prog 9 Try.f9 := .of Try.func9 (by kernel_rfl) (by kernel_rfl)
theorem spec_SlotsOk_g : PM.GOk Try.prog cx 9 ⟨[], spec_SlotsOk_w (spec_SlotsOk PM.std), none⟩ := by
  refine ⟨spec_SlotsOk_fn.enter, fun _ ds k r h => ?_, fun hm => absurd rfl hm, fun _ e => (by cases e)⟩
  change spec_SlotsOk_w (spec_SlotsOk PM.std) ds k = some r at h
  unfold spec_SlotsOk_w at h
  split at h
  · exact PM.pfun_ok (E := spec_SlotsOk_E PM.std (spec_l1In PM.std) (spec_l15Slot PM.std) (spec_BucketOf PM.std)) (L := fun n => spec_SlotsOk_L PM.std (spec_l1In PM.std) (spec_l15Slot PM.std) (spec_BucketOf PM.std) n) (N := PM.std.fuel) cx_ok (.cons spec_l1In_g (.cons spec_l15Slot_g (.cons spec_BucketOf_g .nil))) mixed .nil spec_SlotsOk_fn (by kernel_rfl) ⟨rfl, fun cur σ K => by
      dsimp only [spec_SlotsOk_L]
      split <;> rfl, fun n cur σ K r h => by
      dsimp only [spec_SlotsOk_L] at h
      split at h
      · exact (spec_SlotsOk_l0_ok PM.std (spec_l1In PM.std) (spec_l15Slot PM.std) (spec_BucketOf PM.std) n _ _ _ K).symm.trans h
      · cases h⟩
      ((spec_SlotsOk_ok PM.std (spec_l1In PM.std) (spec_l15Slot PM.std) (spec_BucketOf PM.std) _ k).trans h)
  · cases h

abbrev spec_l15At_T := (List Int) → (Int) → ((Int) → PM.R) → PM.R
noncomputable def spec_l15At_w (c : spec_l15At_T) (ds : List PM.V) (k : PM.V → PM.R) : PM.R :=
  match ds with
  | [.arr (.ints 3 .i64 l), .int .i64 key] => c l key (fun r0 => k (.int .i64 r0))
  | _ => none
noncomputable def spec_l15At_l0 (A : PM.Prims) (c_37 : spec_l15Slot_T) : Nat → (List Int) → (Int) → (Int) → ((Int) → PM.R) → (Unit → PM.R) → PM.R
  | 0, _, _, _, _, _ => none
  | n + 1, l1, key2, i3, kret_0, kx0_0 =>
    bif (A.lt i3 (A.ilen l1)) then
      bif (A.inb i3 (A.ilen l1)) then
        c_37 (A.iget l1 i3) (fun r4 r5 =>
          bif (A.eq r4 key2) then
            bif (A.le 0 key2) then
              kret_0 i3
            else
              spec_l15At_l0 A c_37 n l1 key2 (A.add .i64 i3 1) kret_0 kx0_0
          else
            spec_l15At_l0 A c_37 n l1 key2 (A.add .i64 i3 1) kret_0 kx0_0)
      else
        none
    else
      kx0_0 ()
noncomputable def spec_l15At_f (A : PM.Prims) (c_37 : spec_l15Slot_T) (l : List Int) (key : Int) (k : (Int) → PM.R) : PM.R :=
  spec_l15At_l0 A c_37 A.fuel l key 0 (fun t467 =>
    k t467) (fun _ =>
    k (-1))
noncomputable def spec_l15At (A : PM.Prims) : spec_l15At_T := spec_l15At_f A (spec_l15Slot A)
noncomputable def spec_l15At_L (A : PM.Prims) (c_37 : spec_l15Slot_T) (n : Nat) : PM.Lam := fun cur σ K =>
  match cur, σ, K with
  | 0, ⟨[(0, .arr (.ints 3 .i64 l1)), (1, .int .i64 key2), (5, .int .i64 i3)], []⟩, K => spec_l15At_l0 A c_37 n l1 key2 i3 (fun t46 => K .ret ⟨[(4, .int .i64 t46)], []⟩) (fun _ => K (.exit 0) ⟨[], []⟩)
  | _, _, _ => none
noncomputable def spec_l15At_E (A : PM.Prims) (c_37 : spec_l15Slot_T) : PM.Env := ⟨[(37, ⟨[], spec_l15Slot_w c_37, none⟩)], [], [(0, [0, 1, 5], [4])], [(0, [0, 1]), (1, [0, 1, 5]), (2, [0, 1, 5, 11]), (3, [0, 1, 5]), (4, [0, 1, 5, 6]), (5, [0, 1, 5, 28]), (6, [4]), (7, [4])], spec_l15At_L A c_37 A.fuel⟩
theorem spec_l15At_l0_ok (A : PM.Prims) (c_37 : spec_l15Slot_T) (n : Nat) (l1 : List Int) (key2 : Int) (i3 : Int) (K : Go.Exit → PM.S → PM.R) : spec_l15At_L A c_37 (n + 1) 0 ⟨[(0, .arr (.ints 3 .i64 l1)), (1, .int .i64 key2), (5, .int .i64 i3)], []⟩ K = PM.roundF A cx (PM.runD A cx (spec_l15At_E A c_37).inl (spec_l15At_E A c_37).Γ 3) (spec_l15At_E A c_37) (spec_l15At_L A c_37 n) 0 Go.Proofs.Try.f74 ⟨[(0, .arr (.ints 3 .i64 l1)), (1, .int .i64 key2), (5, .int .i64 i3)], []⟩ K := by kernel_rfl
theorem spec_l15At_ok (A : PM.Prims) (c_37 : spec_l15Slot_T) (l : List Int) (key : Int) (k : PM.V → PM.R) : PM.pfun A cx [] (spec_l15At_E A c_37) Go.Proofs.Try.f74 [.arr (.ints 3 .i64 l), .int .i64 key] k = spec_l15At_f A c_37 l key (fun r0 => k (.int .i64 r0)) := by kernel_rfl

theorem spec_l15At_fn : PM.FnIs Try.prog 74 Try.f74 := .of Try.func74 (by kernel_rfl) (by kernel_rfl)
theorem spec_l15At_g : PM.GOk Try.prog cx 74 ⟨[], spec_l15At_w (spec_l15At PM.std), none⟩ := by
  refine ⟨spec_l15At_fn.enter, fun _ ds k r h => ?_, fun hm => absurd rfl hm, fun _ e => (by cases e)⟩
  change spec_l15At_w (spec_l15At PM.std) ds k = some r at h
  unfold spec_l15At_w at h
  split at h
  · exact PM.pfun_ok (E := spec_l15At_E PM.std (spec_l15Slot PM.std)) (L := fun n => spec_l15At_L PM.std (spec_l15Slot PM.std) n) (N := PM.std.fuel) cx_ok (.cons spec_l15Slot_g .nil) mixed .nil spec_l15At_fn (by kernel_rfl) ⟨rfl, fun cur σ K => by
      dsimp only [spec_l15At_L]
      split <;> rfl, fun n cur σ K r h => by
      dsimp only [spec_l15At_L] at h
      split at h
      · exact (spec_l15At_l0_ok PM.std (spec_l15Slot PM.std) n _ _ _ K).symm.trans h
      · cases h⟩
      ((spec_l15At_ok PM.std (spec_l15Slot PM.std) _ _ k).trans h)
  · cases h

abbrev spec_SlotDrop_T := (List Int) → (Int) → ((List Int) → (Int) → (Bool) → PM.R) → PM.R
noncomputable def spec_SlotDrop_w (c : spec_SlotDrop_T) (ds : List PM.V) (k : PM.V → PM.R) : PM.R :=
  match ds with
  | [.arr (.ints 3 .i64 l), .int .i64 key] => c l key (fun r0 r1 r2 => k (.tup [.arr (.ints 3 .i64 r0), .int .i64 r1, .bool r2]))
  | _ => none
noncomputable def spec_SlotDrop_f (A : PM.Prims) (c_56 : spec_l15Ints_T) (c_37 : spec_l15Slot_T) (c_65 : spec_l15Key_T) (c_9 : spec_SlotsOk_T) (c_74 : spec_l15At_T) (l : List Int) (key : Int) (k : (List Int) → (Int) → (Bool) → PM.R) : PM.R :=
  c_56 l (fun r1 =>
    c_9 l (fun r2 =>
      bif (A.not r2) then
        k r1 0 false
      else
        c_65 key (fun r3 =>
          bif (A.not r3) then
            k r1 0 false
          else
            c_74 l key (fun r4 =>
              bif (A.lt r4 0) then
                k r1 0 true
              else
                bif (A.inb r4 (A.ilen l)) then
                  c_37 (A.iget l r4) (fun r5 r6 =>
                    bif (A.inb r4 (A.ilen r1)) then
                      k (A.iset r1 r4 0) (A.add .i64 1 r6) true
                    else
                      none)
                else
                  none))))
noncomputable def spec_SlotDrop (A : PM.Prims) : spec_SlotDrop_T := spec_SlotDrop_f A (spec_l15Ints A) (spec_l15Slot A) (spec_l15Key A) (spec_SlotsOk A) (spec_l15At A)
noncomputable def spec_SlotDrop_L (A : PM.Prims) (c_56 : spec_l15Ints_T) (c_37 : spec_l15Slot_T) (c_65 : spec_l15Key_T) (c_9 : spec_SlotsOk_T) (c_74 : spec_l15At_T) (n : Nat) : PM.Lam := fun cur σ K =>
  match cur, σ, K with
  | _, _, _ => none
noncomputable def spec_SlotDrop_E (A : PM.Prims) (c_56 : spec_l15Ints_T) (c_37 : spec_l15Slot_T) (c_65 : spec_l15Key_T) (c_9 : spec_SlotsOk_T) (c_74 : spec_l15At_T) : PM.Env := ⟨[(56, ⟨[], spec_l15Ints_w c_56, none⟩), (37, ⟨[], spec_l15Slot_w c_37, none⟩), (65, ⟨[], spec_l15Key_w c_65, none⟩), (9, ⟨[], spec_SlotsOk_w c_9, none⟩), (74, ⟨[], spec_l15At_w c_74, none⟩)], [], [], [(0, [0, 1]), (1, [0, 1, 7]), (2, [0, 1, 7, 20]), (3, [4, 5, 6]), (4, [0, 7, 8]), (5, [0, 7, 8, 26]), (6, [4, 5, 6]), (7, [7, 8, 10]), (8, [7, 10]), (9, [4, 5, 6])], spec_SlotDrop_L A c_56 c_37 c_65 c_9 c_74 A.fuel⟩
theorem spec_SlotDrop_ok (A : PM.Prims) (c_56 : spec_l15Ints_T) (c_37 : spec_l15Slot_T) (c_65 : spec_l15Key_T) (c_9 : spec_SlotsOk_T) (c_74 : spec_l15At_T) (l : List Int) (key : Int) (k : PM.V → PM.R) : PM.pfun A cx [] (spec_SlotDrop_E A c_56 c_37 c_65 c_9 c_74) Go.Proofs.Try.f60 [.arr (.ints 3 .i64 l), .int .i64 key] k = spec_SlotDrop_f A c_56 c_37 c_65 c_9 c_74 l key (fun r0 r1 r2 => k (.tup [.arr (.ints 3 .i64 r0), .int .i64 r1, .bool r2])) := by kernel_rfl

theorem spec_SlotDrop_fn : PM.FnIs Try.prog 60 Try.f60 := .of Try.func60 (by kernel_rfl) (by kernel_rfl)
theorem spec_SlotDrop_g : PM.GOk Try.prog cx 60 ⟨[], spec_SlotDrop_w (spec_SlotDrop PM.std), none⟩ := by
  refine ⟨spec_SlotDrop_fn.enter, fun _ ds k r h => ?_, fun hm => absurd rfl hm, fun _ e => (by cases e)⟩
  change spec_SlotDrop_w (spec_SlotDrop PM.std) ds k = some r at h
  unfold spec_SlotDrop_w at h
  split at h
  · exact PM.pfun_ok (E := spec_SlotDrop_E PM.std (spec_l15Ints PM.std) (spec_l15Slot PM.std) (spec_l15Key PM.std) (spec_SlotsOk PM.std) (spec_l15At PM.std)) (L := fun n => spec_SlotDrop_L PM.std (spec_l15Ints PM.std) (spec_l15Slot PM.std) (spec_l15Key PM.std) (spec_SlotsOk PM.std) (spec_l15At PM.std) n) (N := PM.std.fuel) cx_ok (.cons spec_l15Ints_g (.cons spec_l15Slot_g (.cons spec_l15Key_g (.cons spec_SlotsOk_g (.cons spec_l15At_g .nil))))) mixed .nil spec_SlotDrop_fn (by kernel_rfl) ⟨rfl, fun _ _ _ => rfl, fun n cur σ K r h => by cases h⟩
      ((spec_SlotDrop_ok PM.std (spec_l15Ints PM.std) (spec_l15Slot PM.std) (spec_l15Key PM.std) (spec_SlotsOk PM.std) (spec_l15At PM.std) _ _ k).trans h)
  · cases h

abbrev spec_l3Draw_T := (List Int) → (Int) → (Int) → ((Int) → (List Int) → (Int) → (Int) → PM.R) → PM.R
noncomputable def spec_l3Draw_w (c : spec_l3Draw_T) (ds : List PM.V) (k : PM.V → PM.R) : PM.R :=
  match ds with
  | [.tup [.arr (.ints 5 .u8 c_b), .int .i64 c_i, .int .i64 c_h]] => c c_b c_i c_h (fun r0 bx_b bx_i bx_h => k (.tup [.int .i64 r0, .tup [.arr (.ints 5 .u8 bx_b), .int .i64 bx_i, .int .i64 bx_h]]))
  | _ => none
noncomputable def spec_l3Draw_f (A : PM.Prims) (c_43 : spec_l1Below_T) (c_44 : spec_l1Once_T) (c_b : List Int) (c_i : Int) (c_h : Int) (k : (Int) → (List Int) → (Int) → (Int) → PM.R) : PM.R :=
  c_44 c_b c_i c_h 6 (fun r1 r2 r3 r4 =>
    bif r1 then
      c_43 r2 r3 r4 (A.ilen [0, 65535, 65534, 256]) (fun r5 r6 r7 r8 =>
        bif (A.inb r5 (A.ilen [0, 65535, 65534, 256])) then
          k (A.iget [0, 65535, 65534, 256] r5) r6 r7 r8
        else
          none)
    else
      c_43 r2 r3 r4 9 (fun r9 r10 r11 r12 =>
        k r9 r10 r11 r12))
noncomputable def spec_l3Draw (A : PM.Prims) : spec_l3Draw_T := spec_l3Draw_f A (spec_l1Below A) (spec_l1Once A)
noncomputable def spec_l3Draw_L (A : PM.Prims) (c_43 : spec_l1Below_T) (c_44 : spec_l1Once_T) (n : Nat) : PM.Lam := fun cur σ K =>
  match cur, σ, K with
  | _, _, _ => none
noncomputable def spec_l3Draw_E (A : PM.Prims) (c_43 : spec_l1Below_T) (c_44 : spec_l1Once_T) : PM.Env := ⟨[(43, ⟨[], fun _ _ => none, some (PM.spBox (spec_l1Below_w c_43))⟩), (44, ⟨[], fun _ _ => none, some (PM.spBox (spec_l1Once_w c_44))⟩)], [(29, Go.Proofs.Try.f29)], [], [(0, [0]), (1, [0, 4]), (2, [0, 2]), (3, [0, 2])], spec_l3Draw_L A c_43 c_44 A.fuel⟩
theorem spec_l3Draw_ok (A : PM.Prims) (c_43 : spec_l1Below_T) (c_44 : spec_l1Once_T) (c_b : List Int) (c_i : Int) (c_h : Int) (k : PM.V → PM.R) : PM.pfunB A cx (spec_l3Draw_E A c_43 c_44) Go.Proofs.Try.f46 [.tup [.arr (.ints 5 .u8 c_b), .int .i64 c_i, .int .i64 c_h]] k = spec_l3Draw_f A c_43 c_44 c_b c_i c_h (fun r0 bx_b bx_i bx_h => k (.tup [.int .i64 r0, .tup [.arr (.ints 5 .u8 bx_b), .int .i64 bx_i, .int .i64 bx_h]])) := by kernel_rfl

theorem spec_l3Draw_fn : PM.FnIs Try.prog 46 Try.f46 := .of Try.func46 (by kernel_rfl) (by kernel_rfl)
theorem spec_l3Draw_g : PM.GOk Try.prog cx 46 ⟨[], fun _ _ => none, some (PM.spBox (spec_l3Draw_w (spec_l3Draw PM.std)))⟩ := by
  refine PM.GOk.ofS spec_l3Draw_fn.enter (PM.spBox_ok fun ds k r h => ?_)
  change spec_l3Draw_w (spec_l3Draw PM.std) ds k = some r at h
  unfold spec_l3Draw_w at h
  split at h
  · exact PM.pfunB_ok (E := spec_l3Draw_E PM.std (spec_l1Below PM.std) (spec_l1Once PM.std)) (L := fun n => spec_l3Draw_L PM.std (spec_l1Below PM.std) (spec_l1Once PM.std) n) (N := PM.std.fuel) cx_ok (.cons spec_l1Below_g (.cons spec_l1Once_g .nil)) mixed (.cons (.of Try.func29 (by kernel_rfl) (by kernel_rfl)) (by kernel_rfl) .nil) spec_l3Draw_fn (by kernel_rfl) ⟨rfl, fun _ _ _ => rfl, fun n cur σ K r h => by cases h⟩
      ((spec_l3Draw_ok PM.std (spec_l1Below PM.std) (spec_l1Once PM.std) _ _ _ k).trans h)
  · cases h

abbrev spec_l3Val_T := (Int) → ((Bool) → PM.R) → PM.R
noncomputable def spec_l3Val_w (c : spec_l3Val_T) (ds : List PM.V) (k : PM.V → PM.R) : PM.R :=
  match ds with
  | [.int .i64 v] => c v (fun r0 => k (.bool r0))
  | _ => none
noncomputable def spec_l3Val_f (A : PM.Prims) (c_36 : spec_l1In_T) (v : Int) (k : (Bool) → PM.R) : PM.R :=
  c_36 v 0 65535 (fun r1 =>
    k r1)
noncomputable def spec_l3Val (A : PM.Prims) : spec_l3Val_T := spec_l3Val_f A (spec_l1In A)
noncomputable def spec_l3Val_L (A : PM.Prims) (c_36 : spec_l1In_T) (n : Nat) : PM.Lam := fun cur σ K =>
  match cur, σ, K with
  | _, _, _ => none
noncomputable def spec_l3Val_E (A : PM.Prims) (c_36 : spec_l1In_T) : PM.Env := ⟨[(36, ⟨[], spec_l1In_w c_36, none⟩)], [], [], [(0, [0]), (1, [2])], spec_l3Val_L A c_36 A.fuel⟩
theorem spec_l3Val_ok (A : PM.Prims) (c_36 : spec_l1In_T) (v : Int) (k : PM.V → PM.R) : PM.pfun A cx [] (spec_l3Val_E A c_36) Go.Proofs.Try.f47 [.int .i64 v] k = spec_l3Val_f A c_36 v (fun r0 => k (.bool r0)) := by kernel_rfl

theorem spec_l3Val_fn : PM.FnIs Try.prog 47 Try.f47 := .of Try.func47 (by kernel_rfl) (by kernel_rfl)
theorem spec_l3Val_g : PM.GOk Try.prog cx 47 ⟨[], spec_l3Val_w (spec_l3Val PM.std), none⟩ := by
  refine ⟨spec_l3Val_fn.enter, fun _ ds k r h => ?_, fun hm => absurd rfl hm, fun _ e => (by cases e)⟩
  change spec_l3Val_w (spec_l3Val PM.std) ds k = some r at h
  unfold spec_l3Val_w at h
  split at h
  · exact PM.pfun_ok (E := spec_l3Val_E PM.std (spec_l1In PM.std)) (L := fun n => spec_l3Val_L PM.std (spec_l1In PM.std) n) (N := PM.std.fuel) cx_ok (.cons spec_l1In_g .nil) mixed .nil spec_l3Val_fn (by kernel_rfl) ⟨rfl, fun _ _ _ => rfl, fun n cur σ K r h => by cases h⟩
      ((spec_l3Val_ok PM.std (spec_l1In PM.std) _ k).trans h)
  · cases h

abbrev spec_SlotPut_T := (List Int) → (Int) → (Int) → ((List Int) → (Int) → (Bool) → PM.R) → PM.R
noncomputable def spec_SlotPut_w (c : spec_SlotPut_T) (ds : List PM.V) (k : PM.V → PM.R) : PM.R :=
  match ds with
  | [.arr (.ints 3 .i64 __), .int .i64 a, .int .i64 r] => c __ a r (fun r0 r1 r2 => k (.tup [.arr (.ints 3 .i64 r0), .int .i64 r1, .bool r2]))
  | _ => none
noncomputable def spec_SlotPut_l0 (A : PM.Prims) (c_56 : spec_l15Ints_T) (c_37 : spec_l15Slot_T) (c_65 : spec_l15Key_T) (c_38 : spec_BucketOf_T) (c_9 : spec_SlotsOk_T) (c_74 : spec_l15At_T) (c_47 : spec_l3Val_T) : Nat → (List Int) → (Int) → (Int) → (Int) → (List Int) → ((Int) → (Bool) → (List Int) → PM.R) → ((List Int) → PM.R) → PM.R
  | 0, _, _, _, _, _, _, _ => none
  | n + 1, l9, key10, v11, i12, o013, kret_0, kx0_0 =>
    bif (A.lt i12 (A.ilen l9)) then
      bif (A.inb i12 (A.ilen l9)) then
        bif (A.eq (A.iget l9 i12) 0) then
          bif (A.inb i12 (A.ilen o013)) then
            kret_0 0 true (A.iset o013 i12 (A.add .i64 (A.add .i64 1 (A.mul .i64 key10 65536)) v11))
          else
            none
        else
          spec_SlotPut_l0 A c_56 c_37 c_65 c_38 c_9 c_74 c_47 n l9 key10 v11 (A.add .i64 i12 1) o013 kret_0 kx0_0
      else
        none
    else
      kx0_0 o013
noncomputable def spec_SlotPut_f (A : PM.Prims) (c_56 : spec_l15Ints_T) (c_37 : spec_l15Slot_T) (c_65 : spec_l15Key_T) (c_38 : spec_BucketOf_T) (c_9 : spec_SlotsOk_T) (c_74 : spec_l15At_T) (c_47 : spec_l3Val_T) (__ : List Int) (a : Int) (r : Int) (k : (List Int) → (Int) → (Bool) → PM.R) : PM.R :=
  c_56 __ (fun r1 =>
    c_9 __ (fun r2 =>
      bif (A.not r2) then
        k r1 0 false
      else
        c_65 a (fun r3 =>
          bif (A.not r3) then
            k r1 0 false
          else
            c_47 r (fun r4 =>
              bif (A.not r4) then
                k r1 0 false
              else
                c_74 __ a (fun r5 =>
                  bif (A.le 0 r5) then
                    bif (A.inb r5 (A.ilen __)) then
                      c_37 (A.iget __ r5) (fun r6 r7 =>
                        bif (A.inb r5 (A.ilen r1)) then
                          k (A.iset r1 r5 (A.add .i64 (A.add .i64 1 (A.mul .i64 a 65536)) r)) (A.add .i64 1 r7) true
                        else
                          none)
                    else
                      none
                  else
                    c_38 a (fun r8 =>
                      spec_SlotPut_l0 A c_56 c_37 c_65 c_38 c_9 c_74 c_47 A.fuel __ a r (A.mul .i64 4 r8) r1 (fun t71418 t81519 o01620 =>
                        k o01620 t71418 t81519) (fun o01721 =>
                        k o01721 0 false)))))))
noncomputable def spec_SlotPut (A : PM.Prims) : spec_SlotPut_T := spec_SlotPut_f A (spec_l15Ints A) (spec_l15Slot A) (spec_l15Key A) (spec_BucketOf A) (spec_SlotsOk A) (spec_l15At A) (spec_l3Val A)
noncomputable def spec_SlotPut_L (A : PM.Prims) (c_56 : spec_l15Ints_T) (c_37 : spec_l15Slot_T) (c_65 : spec_l15Key_T) (c_38 : spec_BucketOf_T) (c_9 : spec_SlotsOk_T) (c_74 : spec_l15At_T) (c_47 : spec_l3Val_T) (n : Nat) : PM.Lam := fun cur σ K =>
  match cur, σ, K with
  | 0, ⟨[(0, .arr (.ints 3 .i64 l9)), (1, .int .i64 key10), (2, .int .i64 v11), (9, .sref 0), (13, .int .i64 i12)], [(0, .arr true (.ints 3 .i64 o013))]⟩, K => spec_SlotPut_l0 A c_56 c_37 c_65 c_38 c_9 c_74 c_47 n l9 key10 v11 i12 o013 (fun t714 t815 o016 => K .ret ⟨[(6, .sref 0), (7, .int .i64 t714), (8, .bool t815)], [(0, .arr true (.ints 3 .i64 o016))]⟩) (fun o017 => K (.exit 0) ⟨[(9, .sref 0)], [(0, .arr true (.ints 3 .i64 o017))]⟩)
  | _, _, _ => none
noncomputable def spec_SlotPut_E (A : PM.Prims) (c_56 : spec_l15Ints_T) (c_37 : spec_l15Slot_T) (c_65 : spec_l15Key_T) (c_38 : spec_BucketOf_T) (c_9 : spec_SlotsOk_T) (c_74 : spec_l15At_T) (c_47 : spec_l3Val_T) : PM.Env := ⟨[(56, ⟨[], spec_l15Ints_w c_56, none⟩), (37, ⟨[], spec_l15Slot_w c_37, none⟩), (65, ⟨[], spec_l15Key_w c_65, none⟩), (38, ⟨[], spec_BucketOf_w c_38, none⟩), (9, ⟨[], spec_SlotsOk_w c_9, none⟩), (74, ⟨[], spec_l15At_w c_74, none⟩), (47, ⟨[], spec_l3Val_w c_47, none⟩)], [], [(0, [0, 1, 2, 9, 13], [6, 7, 8, 9])], [(0, [0, 1, 2]), (1, [0, 1, 2, 9]), (2, [0, 1, 2, 9, 28]), (3, [6, 7, 8]), (4, [0, 1, 2, 9, 10]), (5, [0, 1, 2, 9, 10, 34]), (6, [1, 2, 9, 10, 12]), (7, [9, 12]), (8, [6, 7, 8]), (9, [0, 1, 2, 9, 13]), (10, [0, 1, 2, 9, 13, 60]), (11, [0, 1, 2, 9, 13]), (12, [0, 1, 2, 9, 13, 67]), (13, [9]), (14, [6, 7, 8]), (15, [6, 7, 8])], spec_SlotPut_L A c_56 c_37 c_65 c_38 c_9 c_74 c_47 A.fuel⟩
theorem spec_SlotPut_l0_ok (A : PM.Prims) (c_56 : spec_l15Ints_T) (c_37 : spec_l15Slot_T) (c_65 : spec_l15Key_T) (c_38 : spec_BucketOf_T) (c_9 : spec_SlotsOk_T) (c_74 : spec_l15At_T) (c_47 : spec_l3Val_T) (n : Nat) (l9 : List Int) (key10 : Int) (v11 : Int) (i12 : Int) (o013 : List Int) (K : Go.Exit → PM.S → PM.R) : spec_SlotPut_L A c_56 c_37 c_65 c_38 c_9 c_74 c_47 (n + 1) 0 ⟨[(0, .arr (.ints 3 .i64 l9)), (1, .int .i64 key10), (2, .int .i64 v11), (9, .sref 0), (13, .int .i64 i12)], [(0, .arr true (.ints 3 .i64 o013))]⟩ K = PM.roundF A cx (PM.runD A cx (spec_SlotPut_E A c_56 c_37 c_65 c_38 c_9 c_74 c_47).inl (spec_SlotPut_E A c_56 c_37 c_65 c_38 c_9 c_74 c_47).Γ 3) (spec_SlotPut_E A c_56 c_37 c_65 c_38 c_9 c_74 c_47) (spec_SlotPut_L A c_56 c_37 c_65 c_38 c_9 c_74 c_47 n) 0 Go.Proofs.Try.f58 ⟨[(0, .arr (.ints 3 .i64 l9)), (1, .int .i64 key10), (2, .int .i64 v11), (9, .sref 0), (13, .int .i64 i12)], [(0, .arr true (.ints 3 .i64 o013))]⟩ K := by kernel_rfl
theorem spec_SlotPut_ok (A : PM.Prims) (c_56 : spec_l15Ints_T) (c_37 : spec_l15Slot_T) (c_65 : spec_l15Key_T) (c_38 : spec_BucketOf_T) (c_9 : spec_SlotsOk_T) (c_74 : spec_l15At_T) (c_47 : spec_l3Val_T) (__ : List Int) (a : Int) (r : Int) (k : PM.V → PM.R) : PM.pfun A cx [] (spec_SlotPut_E A c_56 c_37 c_65 c_38 c_9 c_74 c_47) Go.Proofs.Try.f58 [.arr (.ints 3 .i64 __), .int .i64 a, .int .i64 r] k = spec_SlotPut_f A c_56 c_37 c_65 c_38 c_9 c_74 c_47 __ a r (fun r0 r1 r2 => k (.tup [.arr (.ints 3 .i64 r0), .int .i64 r1, .bool r2])) := by kernel_rfl

theorem spec_SlotPut_fn : PM.FnIs Try.prog 58 Try.f58 := .of Try.func58 (by kernel_rfl) (by kernel_rfl)
theorem spec_SlotPut_g : PM.GOk Try.prog cx 58 ⟨[], spec_SlotPut_w (spec_SlotPut PM.std), none⟩ := by
  refine ⟨spec_SlotPut_fn.enter, fun _ ds k r h => ?_, fun hm => absurd rfl hm, fun _ e => (by cases e)⟩
  change spec_SlotPut_w (spec_SlotPut PM.std) ds k = some r at h
  unfold spec_SlotPut_w at h
  split at h
  · exact PM.pfun_ok (E := spec_SlotPut_E PM.std (spec_l15Ints PM.std) (spec_l15Slot PM.std) (spec_l15Key PM.std) (spec_BucketOf PM.std) (spec_SlotsOk PM.std) (spec_l15At PM.std) (spec_l3Val PM.std)) (L := fun n => spec_SlotPut_L PM.std (spec_l15Ints PM.std) (spec_l15Slot PM.std) (spec_l15Key PM.std) (spec_BucketOf PM.std) (spec_SlotsOk PM.std) (spec_l15At PM.std) (spec_l3Val PM.std) n) (N := PM.std.fuel) cx_ok (.cons spec_l15Ints_g (.cons spec_l15Slot_g (.cons spec_l15Key_g (.cons spec_BucketOf_g (.cons spec_SlotsOk_g (.cons spec_l15At_g (.cons spec_l3Val_g .nil))))))) mixed .nil spec_SlotPut_fn (by kernel_rfl) ⟨rfl, fun cur σ K => by
      dsimp only [spec_SlotPut_L]
      split <;> rfl, fun n cur σ K r h => by
      dsimp only [spec_SlotPut_L] at h
      split at h
      · exact (spec_SlotPut_l0_ok PM.std (spec_l15Ints PM.std) (spec_l15Slot PM.std) (spec_l15Key PM.std) (spec_BucketOf PM.std) (spec_SlotsOk PM.std) (spec_l15At PM.std) (spec_l3Val PM.std) n _ _ _ _ _ K).symm.trans h
      · cases h⟩
      ((spec_SlotPut_ok PM.std (spec_l15Ints PM.std) (spec_l15Slot PM.std) (spec_l15Key PM.std) (spec_BucketOf PM.std) (spec_SlotsOk PM.std) (spec_l15At PM.std) (spec_l3Val PM.std) _ _ _ k).trans h)
  · cases h

abbrev spec_l15Some_T := (List Int) → (Int) → (Int) → ((List Int) → (List Int) → (Int) → (Int) → PM.R) → PM.R
noncomputable def spec_l15Some_w (c : spec_l15Some_T) (ds : List PM.V) (k : PM.V → PM.R) : PM.R :=
  match ds with
  | [.tup [.arr (.ints 5 .u8 c_b), .int .i64 c_i, .int .i64 c_h]] => c c_b c_i c_h (fun r0 bx_b bx_i bx_h => k (.tup [.arr (.ints 3 .i64 r0), .tup [.arr (.ints 5 .u8 bx_b), .int .i64 bx_i, .int .i64 bx_h]]))
  | _ => none
noncomputable def spec_l15Some_l0 (A : PM.Prims) (c_75 : spec_SlotNew_T) (c_43 : spec_l1Below_T) (c_44 : spec_l1Once_T) (c_60 : spec_SlotDrop_T) (c_46 : spec_l3Draw_T) (c_58 : spec_SlotPut_T) : Nat → (Int) → (List Int) → (Int) → (Int) → (List Int) → ((List Int) → (Int) → (Int) → (List Int) → PM.R) → PM.R
  | 0, _, _, _, _, _, _ => none
  | n + 1, n6, o07, o08, o09, o110, kx0_0 =>
    bif (A.lt 0 n6) then
      c_43 o07 o08 o09 8 (fun r11 r12 r13 r14 =>
        c_44 r12 r13 r14 3 (fun r15 r16 r17 r18 =>
          bif r15 then
            c_60 o110 r11 (fun r19 r20 r21 =>
              spec_l15Some_l0 A c_75 c_43 c_44 c_60 c_46 c_58 n (A.sub .i64 n6 1) r16 r17 r18 r19 kx0_0)
          else
            c_46 r16 r17 r18 (fun r22 r23 r24 r25 =>
              c_58 o110 r11 r22 (fun r26 r27 r28 =>
                spec_l15Some_l0 A c_75 c_43 c_44 c_60 c_46 c_58 n (A.sub .i64 n6 1) r23 r24 r25 r26 kx0_0))))
    else
      kx0_0 o07 o08 o09 o110
noncomputable def spec_l15Some_f (A : PM.Prims) (c_75 : spec_SlotNew_T) (c_43 : spec_l1Below_T) (c_44 : spec_l1Once_T) (c_60 : spec_SlotDrop_T) (c_46 : spec_l3Draw_T) (c_58 : spec_SlotPut_T) (c_b : List Int) (c_i : Int) (c_h : Int) (k : (List Int) → (List Int) → (Int) → (Int) → PM.R) : PM.R :=
  c_75 (fun r1 =>
    c_43 c_b c_i c_h 14 (fun r2 r3 r4 r5 =>
      spec_l15Some_l0 A c_75 c_43 c_44 c_60 c_46 c_58 A.fuel r2 r3 r4 r5 r1 (fun o02933 o03034 o03135 o13236 =>
        k o13236 o02933 o03034 o03135)))
noncomputable def spec_l15Some (A : PM.Prims) : spec_l15Some_T := spec_l15Some_f A (spec_SlotNew A) (spec_l1Below A) (spec_l1Once A) (spec_SlotDrop A) (spec_l3Draw A) (spec_SlotPut A)
noncomputable def spec_l15Some_L (A : PM.Prims) (c_75 : spec_SlotNew_T) (c_43 : spec_l1Below_T) (c_44 : spec_l1Once_T) (c_60 : spec_SlotDrop_T) (c_46 : spec_l3Draw_T) (c_58 : spec_SlotPut_T) (n : Nat) : PM.Lam := fun cur σ K =>
  match cur, σ, K with
  | 0, ⟨[(0, .pbox 0 0), (3, .sref 1), (4, .int .i64 n6)], [(0, .box [.arr (.ints 5 .u8 o07), .int .i64 o08, .int .i64 o09]), (1, .arr true (.ints 3 .i64 o110))]⟩, K => spec_l15Some_l0 A c_75 c_43 c_44 c_60 c_46 c_58 n n6 o07 o08 o09 o110 (fun o029 o030 o031 o132 => K (.exit 0) ⟨[(0, .pbox 0 0), (3, .sref 1)], [(0, .box [.arr (.ints 5 .u8 o029), .int .i64 o030, .int .i64 o031]), (1, .arr true (.ints 3 .i64 o132))]⟩)
  | _, _, _ => none
noncomputable def spec_l15Some_E (A : PM.Prims) (c_75 : spec_SlotNew_T) (c_43 : spec_l1Below_T) (c_44 : spec_l1Once_T) (c_60 : spec_SlotDrop_T) (c_46 : spec_l3Draw_T) (c_58 : spec_SlotPut_T) : PM.Env := ⟨[(75, ⟨[], spec_SlotNew_w c_75, none⟩), (43, ⟨[], fun _ _ => none, some (PM.spBox (spec_l1Below_w c_43))⟩), (44, ⟨[], fun _ _ => none, some (PM.spBox (spec_l1Once_w c_44))⟩), (60, ⟨[], spec_SlotDrop_w c_60, none⟩), (46, ⟨[], fun _ _ => none, some (PM.spBox (spec_l3Draw_w c_46))⟩), (58, ⟨[], spec_SlotPut_w c_58, none⟩)], [], [(0, [0, 3, 4], [0, 2, 3])], [(0, [0]), (1, [0, 3]), (2, [0, 3, 4]), (3, [0, 3, 4, 16]), (4, [0, 3, 4]), (5, [0, 3, 4, 5]), (6, [0, 3, 4, 5, 22]), (7, [0, 4, 6]), (8, [0, 3, 4]), (9, [0, 4, 9]), (10, [0, 3, 4]), (11, [0, 2])], spec_l15Some_L A c_75 c_43 c_44 c_60 c_46 c_58 A.fuel⟩
theorem spec_l15Some_l0_ok (A : PM.Prims) (c_75 : spec_SlotNew_T) (c_43 : spec_l1Below_T) (c_44 : spec_l1Once_T) (c_60 : spec_SlotDrop_T) (c_46 : spec_l3Draw_T) (c_58 : spec_SlotPut_T) (n : Nat) (n6 : Int) (o07 : List Int) (o08 : Int) (o09 : Int) (o110 : List Int) (K : Go.Exit → PM.S → PM.R) : spec_l15Some_L A c_75 c_43 c_44 c_60 c_46 c_58 (n + 1) 0 ⟨[(0, .pbox 0 0), (3, .sref 1), (4, .int .i64 n6)], [(0, .box [.arr (.ints 5 .u8 o07), .int .i64 o08, .int .i64 o09]), (1, .arr true (.ints 3 .i64 o110))]⟩ K = PM.roundF A cx (PM.runD A cx (spec_l15Some_E A c_75 c_43 c_44 c_60 c_46 c_58).inl (spec_l15Some_E A c_75 c_43 c_44 c_60 c_46 c_58).Γ 3) (spec_l15Some_E A c_75 c_43 c_44 c_60 c_46 c_58) (spec_l15Some_L A c_75 c_43 c_44 c_60 c_46 c_58 n) 0 Go.Proofs.Try.f62 ⟨[(0, .pbox 0 0), (3, .sref 1), (4, .int .i64 n6)], [(0, .box [.arr (.ints 5 .u8 o07), .int .i64 o08, .int .i64 o09]), (1, .arr true (.ints 3 .i64 o110))]⟩ K := by kernel_rfl
theorem spec_l15Some_ok (A : PM.Prims) (c_75 : spec_SlotNew_T) (c_43 : spec_l1Below_T) (c_44 : spec_l1Once_T) (c_60 : spec_SlotDrop_T) (c_46 : spec_l3Draw_T) (c_58 : spec_SlotPut_T) (c_b : List Int) (c_i : Int) (c_h : Int) (k : PM.V → PM.R) : PM.pfunB A cx (spec_l15Some_E A c_75 c_43 c_44 c_60 c_46 c_58) Go.Proofs.Try.f62 [.tup [.arr (.ints 5 .u8 c_b), .int .i64 c_i, .int .i64 c_h]] k = spec_l15Some_f A c_75 c_43 c_44 c_60 c_46 c_58 c_b c_i c_h (fun r0 bx_b bx_i bx_h => k (.tup [.arr (.ints 3 .i64 r0), .tup [.arr (.ints 5 .u8 bx_b), .int .i64 bx_i, .int .i64 bx_h]])) := by kernel_rfl

theorem spec_l15Some_fn : PM.FnIs Try.prog 62 Try.f62 := .of Try.func62 (by kernel_rfl) (by kernel_rfl)
theorem spec_l15Some_g : PM.GOk Try.prog cx 62 ⟨[], fun _ _ => none, some (PM.spBox (spec_l15Some_w (spec_l15Some PM.std)))⟩ := by
  refine PM.GOk.ofS spec_l15Some_fn.enter (PM.spBox_ok fun ds k r h => ?_)
  change spec_l15Some_w (spec_l15Some PM.std) ds k = some r at h
  unfold spec_l15Some_w at h
  split at h
  · exact PM.pfunB_ok (E := spec_l15Some_E PM.std (spec_SlotNew PM.std) (spec_l1Below PM.std) (spec_l1Once PM.std) (spec_SlotDrop PM.std) (spec_l3Draw PM.std) (spec_SlotPut PM.std)) (L := fun n => spec_l15Some_L PM.std (spec_SlotNew PM.std) (spec_l1Below PM.std) (spec_l1Once PM.std) (spec_SlotDrop PM.std) (spec_l3Draw PM.std) (spec_SlotPut PM.std) n) (N := PM.std.fuel) cx_ok (.cons spec_SlotNew_g (.cons spec_l1Below_g (.cons spec_l1Once_g (.cons spec_SlotDrop_g (.cons spec_l3Draw_g (.cons spec_SlotPut_g .nil)))))) mixed .nil spec_l15Some_fn (by kernel_rfl) ⟨rfl, fun cur σ K => by
      dsimp only [spec_l15Some_L]
      split <;> rfl, fun n cur σ K r h => by
      dsimp only [spec_l15Some_L] at h
      split at h
      · exact (spec_l15Some_l0_ok PM.std (spec_SlotNew PM.std) (spec_l1Below PM.std) (spec_l1Once PM.std) (spec_SlotDrop PM.std) (spec_l3Draw PM.std) (spec_SlotPut PM.std) n _ _ _ _ _ K).symm.trans h
      · cases h⟩
      ((spec_l15Some_ok PM.std (spec_SlotNew PM.std) (spec_l1Below PM.std) (spec_l1Once PM.std) (spec_SlotDrop PM.std) (spec_l3Draw PM.std) (spec_SlotPut PM.std) _ _ _ k).trans h)
  · cases h

abbrev spec_l15Any_T := (List Int) → (Int) → (Int) → ((List Int) → (List Int) → (Int) → (Int) → PM.R) → PM.R
noncomputable def spec_l15Any_w (c : spec_l15Any_T) (ds : List PM.V) (k : PM.V → PM.R) : PM.R :=
  match ds with
  | [.tup [.arr (.ints 5 .u8 c_b), .int .i64 c_i, .int .i64 c_h]] => c c_b c_i c_h (fun r0 bx_b bx_i bx_h => k (.tup [.arr (.ints 3 .i64 r0), .tup [.arr (.ints 5 .u8 bx_b), .int .i64 bx_i, .int .i64 bx_h]]))
  | _ => none
noncomputable def spec_l15Any_f (A : PM.Prims) (c_43 : spec_l1Below_T) (c_62 : spec_l15Some_T) (c_b : List Int) (c_i : Int) (c_h : Int) (k : (List Int) → (List Int) → (Int) → (Int) → PM.R) : PM.R :=
  c_62 c_b c_i c_h (fun r1 r2 r3 r4 =>
    c_43 r2 r3 r4 (A.ilen r1) (fun r5 r6 r7 r8 =>
      c_43 r6 r7 r8 16 (fun r9 r10 r11 r12 =>
        bif (A.eq r9 0) then
          bif (A.subb 0 r5 (A.ilen r1)) then
            k (A.isub r1 0 r5) r10 r11 r12
          else
            none
        else
          bif (A.eq r9 1) then
            c_43 r10 r11 r12 8 (fun r13 r14 r15 r16 =>
              bif (A.inb r5 (A.ilen r1)) then
                k (A.iset r1 r5 (A.add .i64 1 (A.mul .i64 r13 65536))) r14 r15 r16
              else
                none)
          else
            bif (A.eq r9 2) then
              c_43 r10 r11 r12 (A.ilen [(-1), 524289, 524288]) (fun r17 r18 r19 r20 =>
                bif (A.inb r17 (A.ilen [(-1), 524289, 524288])) then
                  bif (A.inb r5 (A.ilen r1)) then
                    k (A.iset r1 r5 (A.iget [(-1), 524289, 524288] r17)) r18 r19 r20
                  else
                    none
                else
                  none)
            else
              k r1 r10 r11 r12)))
noncomputable def spec_l15Any (A : PM.Prims) : spec_l15Any_T := spec_l15Any_f A (spec_l1Below A) (spec_l15Some A)
noncomputable def spec_l15Any_L (A : PM.Prims) (c_43 : spec_l1Below_T) (c_62 : spec_l15Some_T) (n : Nat) : PM.Lam := fun cur σ K =>
  match cur, σ, K with
  | _, _, _ => none
noncomputable def spec_l15Any_E (A : PM.Prims) (c_43 : spec_l1Below_T) (c_62 : spec_l15Some_T) : PM.Env := ⟨[(43, ⟨[], fun _ _ => none, some (PM.spBox (spec_l1Below_w c_43))⟩), (62, ⟨[], fun _ _ => none, some (PM.spBox (spec_l15Some_w c_62))⟩)], [(29, Go.Proofs.Try.f29)], [], [(0, [0]), (1, [0, 3]), (2, [0, 3, 4]), (3, [0, 3, 4, 12]), (4, [0, 3, 4, 12, 13]), (5, [0, 2]), (6, [0, 3, 4, 12, 18]), (7, [0, 3]), (8, [0, 3, 4, 27]), (9, [0, 3]), (10, [0, 2])], spec_l15Any_L A c_43 c_62 A.fuel⟩
theorem spec_l15Any_ok (A : PM.Prims) (c_43 : spec_l1Below_T) (c_62 : spec_l15Some_T) (c_b : List Int) (c_i : Int) (c_h : Int) (k : PM.V → PM.R) : PM.pfunB A cx (spec_l15Any_E A c_43 c_62) Go.Proofs.Try.f27 [.tup [.arr (.ints 5 .u8 c_b), .int .i64 c_i, .int .i64 c_h]] k = spec_l15Any_f A c_43 c_62 c_b c_i c_h (fun r0 bx_b bx_i bx_h => k (.tup [.arr (.ints 3 .i64 r0), .tup [.arr (.ints 5 .u8 bx_b), .int .i64 bx_i, .int .i64 bx_h]])) := by kernel_rfl

theorem spec_l15Any_fn : PM.FnIs Try.prog 27 Try.f27 := .of Try.func27 (by kernel_rfl) (by kernel_rfl)
theorem spec_l15Any_g : PM.GOk Try.prog cx 27 ⟨[], fun _ _ => none, some (PM.spBox (spec_l15Any_w (spec_l15Any PM.std)))⟩ := by
  refine PM.GOk.ofS spec_l15Any_fn.enter (PM.spBox_ok fun ds k r h => ?_)
  change spec_l15Any_w (spec_l15Any PM.std) ds k = some r at h
  unfold spec_l15Any_w at h
  split at h
  · exact PM.pfunB_ok (E := spec_l15Any_E PM.std (spec_l1Below PM.std) (spec_l15Some PM.std)) (L := fun n => spec_l15Any_L PM.std (spec_l1Below PM.std) (spec_l15Some PM.std) n) (N := PM.std.fuel) cx_ok (.cons spec_l1Below_g (.cons spec_l15Some_g .nil)) mixed (.cons (.of Try.func29 (by kernel_rfl) (by kernel_rfl)) (by kernel_rfl) .nil) spec_l15Any_fn (by kernel_rfl) ⟨rfl, fun _ _ _ => rfl, fun n cur σ K r h => by cases h⟩
      ((spec_l15Any_ok PM.std (spec_l1Below PM.std) (spec_l15Some PM.std) _ _ _ k).trans h)
  · cases h

abbrev spec_l15AnyKey_T := (List Int) → (Int) → (Int) → ((Int) → (List Int) → (Int) → (Int) → PM.R) → PM.R
noncomputable def spec_l15AnyKey_w (c : spec_l15AnyKey_T) (ds : List PM.V) (k : PM.V → PM.R) : PM.R :=
  match ds with
  | [.tup [.arr (.ints 5 .u8 c_b), .int .i64 c_i, .int .i64 c_h]] => c c_b c_i c_h (fun r0 bx_b bx_i bx_h => k (.tup [.int .i64 r0, .tup [.arr (.ints 5 .u8 bx_b), .int .i64 bx_i, .int .i64 bx_h]]))
  | _ => none
noncomputable def spec_l15AnyKey_f (A : PM.Prims) (c_43 : spec_l1Below_T) (c_44 : spec_l1Once_T) (c_b : List Int) (c_i : Int) (c_h : Int) (k : (Int) → (List Int) → (Int) → (Int) → PM.R) : PM.R :=
  c_44 c_b c_i c_h 12 (fun r1 r2 r3 r4 =>
    bif r1 then
      c_43 r2 r3 r4 (A.ilen [(-1), 8, 9223372036854775807]) (fun r5 r6 r7 r8 =>
        bif (A.inb r5 (A.ilen [(-1), 8, 9223372036854775807])) then
          k (A.iget [(-1), 8, 9223372036854775807] r5) r6 r7 r8
        else
          none)
    else
      c_43 r2 r3 r4 8 (fun r9 r10 r11 r12 =>
        k r9 r10 r11 r12))
noncomputable def spec_l15AnyKey (A : PM.Prims) : spec_l15AnyKey_T := spec_l15AnyKey_f A (spec_l1Below A) (spec_l1Once A)
noncomputable def spec_l15AnyKey_L (A : PM.Prims) (c_43 : spec_l1Below_T) (c_44 : spec_l1Once_T) (n : Nat) : PM.Lam := fun cur σ K =>
  match cur, σ, K with
  | _, _, _ => none
noncomputable def spec_l15AnyKey_E (A : PM.Prims) (c_43 : spec_l1Below_T) (c_44 : spec_l1Once_T) : PM.Env := ⟨[(43, ⟨[], fun _ _ => none, some (PM.spBox (spec_l1Below_w c_43))⟩), (44, ⟨[], fun _ _ => none, some (PM.spBox (spec_l1Once_w c_44))⟩)], [(29, Go.Proofs.Try.f29)], [], [(0, [0]), (1, [0, 4]), (2, [0, 2]), (3, [0, 2])], spec_l15AnyKey_L A c_43 c_44 A.fuel⟩
theorem spec_l15AnyKey_ok (A : PM.Prims) (c_43 : spec_l1Below_T) (c_44 : spec_l1Once_T) (c_b : List Int) (c_i : Int) (c_h : Int) (k : PM.V → PM.R) : PM.pfunB A cx (spec_l15AnyKey_E A c_43 c_44) Go.Proofs.Try.f28 [.tup [.arr (.ints 5 .u8 c_b), .int .i64 c_i, .int .i64 c_h]] k = spec_l15AnyKey_f A c_43 c_44 c_b c_i c_h (fun r0 bx_b bx_i bx_h => k (.tup [.int .i64 r0, .tup [.arr (.ints 5 .u8 bx_b), .int .i64 bx_i, .int .i64 bx_h]])) := by kernel_rfl

theorem spec_l15AnyKey_fn : PM.FnIs Try.prog 28 Try.f28 := .of Try.func28 (by kernel_rfl) (by kernel_rfl)
theorem spec_l15AnyKey_g : PM.GOk Try.prog cx 28 ⟨[], fun _ _ => none, some (PM.spBox (spec_l15AnyKey_w (spec_l15AnyKey PM.std)))⟩ := by
  refine PM.GOk.ofS spec_l15AnyKey_fn.enter (PM.spBox_ok fun ds k r h => ?_)
  change spec_l15AnyKey_w (spec_l15AnyKey PM.std) ds k = some r at h
  unfold spec_l15AnyKey_w at h
  split at h
  · exact PM.pfunB_ok (E := spec_l15AnyKey_E PM.std (spec_l1Below PM.std) (spec_l1Once PM.std)) (L := fun n => spec_l15AnyKey_L PM.std (spec_l1Below PM.std) (spec_l1Once PM.std) n) (N := PM.std.fuel) cx_ok (.cons spec_l1Below_g (.cons spec_l1Once_g .nil)) mixed (.cons (.of Try.func29 (by kernel_rfl) (by kernel_rfl)) (by kernel_rfl) .nil) spec_l15AnyKey_fn (by kernel_rfl) ⟨rfl, fun _ _ _ => rfl, fun n cur σ K r h => by cases h⟩
      ((spec_l15AnyKey_ok PM.std (spec_l1Below PM.std) (spec_l1Once PM.std) _ _ _ k).trans h)
  · cases h

abbrev spec_DrawSlotPut_T := (List Int) → ((List Int) → (Int) → (Int) → PM.R) → PM.R
noncomputable def spec_DrawSlotPut_w (c : spec_DrawSlotPut_T) (ds : List PM.V) (k : PM.V → PM.R) : PM.R :=
  match ds with
  | [.arr (.ints 5 .u8 code)] => c code (fun r0 r1 r2 => k (.tup [.arr (.ints 3 .i64 r0), .int .i64 r1, .int .i64 r2]))
  | _ => none
noncomputable def spec_DrawSlotPut_f (A : PM.Prims) (c_26 : spec_l1New_T) (c_43 : spec_l1Below_T) (c_27 : spec_l15Any_T) (c_28 : spec_l15AnyKey_T) (code : List Int) (k : (List Int) → (Int) → (Int) → PM.R) : PM.R :=
  c_26 code (fun r1 r2 r3 =>
    c_27 r1 r2 r3 (fun r4 r5 r6 r7 =>
      c_28 r5 r6 r7 (fun r8 r9 r10 r11 =>
        c_43 r9 r10 r11 (A.ilen [0, 1, 7, 65535, 65536, (-1), 3]) (fun r12 r13 r14 r15 =>
          bif (A.inb r12 (A.ilen [0, 1, 7, 65535, 65536, (-1), 3])) then
            k r4 r8 (A.iget [0, 1, 7, 65535, 65536, (-1), 3] r12)
          else
            none))))
noncomputable def spec_DrawSlotPut (A : PM.Prims) : spec_DrawSlotPut_T := spec_DrawSlotPut_f A (spec_l1New A) (spec_l1Below A) (spec_l15Any A) (spec_l15AnyKey A)
noncomputable def spec_DrawSlotPut_L (A : PM.Prims) (c_26 : spec_l1New_T) (c_43 : spec_l1Below_T) (c_27 : spec_l15Any_T) (c_28 : spec_l15AnyKey_T) (n : Nat) : PM.Lam := fun cur σ K =>
  match cur, σ, K with
  | _, _, _ => none
noncomputable def spec_DrawSlotPut_E (A : PM.Prims) (c_26 : spec_l1New_T) (c_43 : spec_l1Below_T) (c_27 : spec_l15Any_T) (c_28 : spec_l15AnyKey_T) : PM.Env := ⟨[(26, ⟨[], fun _ _ => none, some (PM.spNew (spec_l1New_w c_26))⟩), (43, ⟨[], fun _ _ => none, some (PM.spBox (spec_l1Below_w c_43))⟩), (27, ⟨[], fun _ _ => none, some (PM.spBox (spec_l15Any_w c_27))⟩), (28, ⟨[], fun _ _ => none, some (PM.spBox (spec_l15AnyKey_w c_28))⟩)], [(29, Go.Proofs.Try.f29)], [], [(0, [0]), (1, [5]), (2, [5, 6]), (3, [5, 6, 7]), (4, [2, 3, 4])], spec_DrawSlotPut_L A c_26 c_43 c_27 c_28 A.fuel⟩
theorem spec_DrawSlotPut_ok (A : PM.Prims) (c_26 : spec_l1New_T) (c_43 : spec_l1Below_T) (c_27 : spec_l15Any_T) (c_28 : spec_l15AnyKey_T) (code : List Int) (k : PM.V → PM.R) : PM.pfun A cx [] (spec_DrawSlotPut_E A c_26 c_43 c_27 c_28) Go.Proofs.Try.f7 [.arr (.ints 5 .u8 code)] k = spec_DrawSlotPut_f A c_26 c_43 c_27 c_28 code (fun r0 r1 r2 => k (.tup [.arr (.ints 3 .i64 r0), .int .i64 r1, .int .i64 r2])) := by kernel_rfl

theorem spec_DrawSlotPut_fn : PM.FnIs Try.prog 7 Try.f7 := .of Try.func7 (by kernel_rfl) (by kernel_rfl)
theorem spec_DrawSlotPut_g : PM.GOk Try.prog cx 7 ⟨[], spec_DrawSlotPut_w (spec_DrawSlotPut PM.std), none⟩ := by
  refine ⟨spec_DrawSlotPut_fn.enter, fun _ ds k r h => ?_, fun hm => absurd rfl hm, fun _ e => (by cases e)⟩
  change spec_DrawSlotPut_w (spec_DrawSlotPut PM.std) ds k = some r at h
  unfold spec_DrawSlotPut_w at h
  split at h
  · exact PM.pfun_ok (E := spec_DrawSlotPut_E PM.std (spec_l1New PM.std) (spec_l1Below PM.std) (spec_l15Any PM.std) (spec_l15AnyKey PM.std)) (L := fun n => spec_DrawSlotPut_L PM.std (spec_l1New PM.std) (spec_l1Below PM.std) (spec_l15Any PM.std) (spec_l15AnyKey PM.std) n) (N := PM.std.fuel) cx_ok (.cons spec_l1New_g (.cons spec_l1Below_g (.cons spec_l15Any_g (.cons spec_l15AnyKey_g .nil)))) mixed (.cons (.of Try.func29 (by kernel_rfl) (by kernel_rfl)) (by kernel_rfl) .nil) spec_DrawSlotPut_fn (by kernel_rfl) ⟨rfl, fun _ _ _ => rfl, fun n cur σ K r h => by cases h⟩
      ((spec_DrawSlotPut_ok PM.std (spec_l1New PM.std) (spec_l1Below PM.std) (spec_l15Any PM.std) (spec_l15AnyKey PM.std) _ k).trans h)
  · cases h

abbrev impl_copyInts_T := (List Int) → ((List Int) → PM.R) → PM.R
noncomputable def impl_copyInts_w (c : impl_copyInts_T) (ds : List PM.V) (k : PM.V → PM.R) : PM.R :=
  match ds with
  | [.arr (.ints 3 .i64 l)] => c l (fun r0 => k (.arr (.ints 3 .i64 r0)))
  | _ => none
noncomputable def impl_copyInts_f (A : PM.Prims) (l : List Int) (k : (List Int) → PM.R) : PM.R :=
  bif (A.room (A.ilen []) (A.ilen l)) then
    k (A.iapp [] l)
  else
    none
noncomputable def impl_copyInts (A : PM.Prims) : impl_copyInts_T := impl_copyInts_f A
noncomputable def impl_copyInts_L (A : PM.Prims) (n : Nat) : PM.Lam := fun cur σ K =>
  match cur, σ, K with
  | _, _, _ => none
noncomputable def impl_copyInts_E (A : PM.Prims) : PM.Env := ⟨[], [], [], [(0, [0]), (1, [2])], impl_copyInts_L A A.fuel⟩
theorem impl_copyInts_ok (A : PM.Prims) (l : List Int) (k : PM.V → PM.R) : PM.pfun A cx [] (impl_copyInts_E A) Go.Proofs.Try.f30 [.arr (.ints 3 .i64 l)] k = impl_copyInts_f A l (fun r0 => k (.arr (.ints 3 .i64 r0))) := by kernel_rfl

theorem impl_copyInts_fn : PM.FnIs Try.prog 30 Try.f30 := .of Try.func30 (by kernel_rfl) (by kernel_rfl)
theorem impl_copyInts_g : PM.GOk Try.prog cx 30 ⟨[], impl_copyInts_w (impl_copyInts PM.std), none⟩ := by
  refine ⟨impl_copyInts_fn.enter, fun _ ds k r h => ?_, fun hm => absurd rfl hm, fun _ e => (by cases e)⟩
  change impl_copyInts_w (impl_copyInts PM.std) ds k = some r at h
  unfold impl_copyInts_w at h
  split at h
  · exact PM.pfun_ok (E := impl_copyInts_E PM.std) (L := fun n => impl_copyInts_L PM.std n) (N := PM.std.fuel) cx_ok .nil mixed .nil impl_copyInts_fn (by kernel_rfl) ⟨rfl, fun _ _ _ => rfl, fun n cur σ K r h => by cases h⟩
      ((impl_copyInts_ok PM.std _ k).trans h)
  · cases h

abbrev impl_slotOf_T := (Int) → (Int) → ((Int) → PM.R) → PM.R
noncomputable def impl_slotOf_w (c : impl_slotOf_T) (ds : List PM.V) (k : PM.V → PM.R) : PM.R :=
  match ds with
  | [.int .i64 key, .int .i64 v] => c key v (fun r0 => k (.int .i64 r0))
  | _ => none
noncomputable def impl_slotOf_f (A : PM.Prims) (key : Int) (v : Int) (k : (Int) → PM.R) : PM.R :=
  k (A.add .i64 (A.add .i64 1 (A.mul .i64 65536 key)) v)
noncomputable def impl_slotOf (A : PM.Prims) : impl_slotOf_T := impl_slotOf_f A
noncomputable def impl_slotOf_L (A : PM.Prims) (n : Nat) : PM.Lam := fun cur σ K =>
  match cur, σ, K with
  | _, _, _ => none
noncomputable def impl_slotOf_E (A : PM.Prims) : PM.Env := ⟨[], [], [], [(0, [0, 1]), (1, [4])], impl_slotOf_L A A.fuel⟩
theorem impl_slotOf_ok (A : PM.Prims) (key : Int) (v : Int) (k : PM.V → PM.R) : PM.pfun A cx [] (impl_slotOf_E A) Go.Proofs.Try.f35 [.int .i64 key, .int .i64 v] k = impl_slotOf_f A key v (fun r0 => k (.int .i64 r0)) := by kernel_rfl

theorem impl_slotOf_fn : PM.FnIs Try.prog 35 Try.f35 := .of Try.func35 (by kernel_rfl) (by kernel_rfl)
theorem impl_slotOf_g : PM.GOk Try.prog cx 35 ⟨[], impl_slotOf_w (impl_slotOf PM.std), none⟩ := by
  refine ⟨impl_slotOf_fn.enter, fun _ ds k r h => ?_, fun hm => absurd rfl hm, fun _ e => (by cases e)⟩
  change impl_slotOf_w (impl_slotOf PM.std) ds k = some r at h
  unfold impl_slotOf_w at h
  split at h
  · exact PM.pfun_ok (E := impl_slotOf_E PM.std) (L := fun n => impl_slotOf_L PM.std n) (N := PM.std.fuel) cx_ok .nil mixed .nil impl_slotOf_fn (by kernel_rfl) ⟨rfl, fun _ _ _ => rfl, fun n cur σ K r h => by cases h⟩
      ((impl_slotOf_ok PM.std _ _ k).trans h)
  · cases h

abbrev impl_within_T := (Int) → (Int) → (Int) → ((Bool) → PM.R) → PM.R
noncomputable def impl_within_w (c : impl_within_T) (ds : List PM.V) (k : PM.V → PM.R) : PM.R :=
  match ds with
  | [.int .i64 x, .int .i64 lo, .int .i64 hi] => c x lo hi (fun r0 => k (.bool r0))
  | _ => none
noncomputable def impl_within_f (A : PM.Prims) (x : Int) (lo : Int) (hi : Int) (k : (Bool) → PM.R) : PM.R :=
  bif (A.le lo x) then
    k (A.le x hi)
  else
    k false
noncomputable def impl_within (A : PM.Prims) : impl_within_T := impl_within_f A
noncomputable def impl_within_L (A : PM.Prims) (n : Nat) : PM.Lam := fun cur σ K =>
  match cur, σ, K with
  | _, _, _ => none
noncomputable def impl_within_E (A : PM.Prims) : PM.Env := ⟨[], [], [], [(0, [0, 1, 2]), (1, [6])], impl_within_L A A.fuel⟩
theorem impl_within_ok (A : PM.Prims) (x : Int) (lo : Int) (hi : Int) (k : PM.V → PM.R) : PM.pfun A cx [] (impl_within_E A) Go.Proofs.Try.f63 [.int .i64 x, .int .i64 lo, .int .i64 hi] k = impl_within_f A x lo hi (fun r0 => k (.bool r0)) := by kernel_rfl

theorem impl_within_fn : PM.FnIs Try.prog 63 Try.f63 := .of Try.func63 (by kernel_rfl) (by kernel_rfl)
theorem impl_within_g : PM.GOk Try.prog cx 63 ⟨[], impl_within_w (impl_within PM.std), none⟩ := by
  refine ⟨impl_within_fn.enter, fun _ ds k r h => ?_, fun hm => absurd rfl hm, fun _ e => (by cases e)⟩
  change impl_within_w (impl_within PM.std) ds k = some r at h
  unfold impl_within_w at h
  split at h
  · exact PM.pfun_ok (E := impl_within_E PM.std) (L := fun n => impl_within_L PM.std n) (N := PM.std.fuel) cx_ok .nil mixed .nil impl_within_fn (by kernel_rfl) ⟨rfl, fun _ _ _ => rfl, fun n cur σ K r h => by cases h⟩
      ((impl_within_ok PM.std _ _ _ k).trans h)
  · cases h

abbrev impl_keyIn_T := (Int) → ((Int) → PM.R) → PM.R
noncomputable def impl_keyIn_w (c : impl_keyIn_T) (ds : List PM.V) (k : PM.V → PM.R) : PM.R :=
  match ds with
  | [.int .i64 slot] => c slot (fun r0 => k (.int .i64 r0))
  | _ => none
noncomputable def impl_keyIn_f (A : PM.Prims) (slot : Int) (k : (Int) → PM.R) : PM.R :=
  bif (A.nz 65536) then
    k (A.quo .i64 (A.sub .i64 slot 1) 65536)
  else
    none
noncomputable def impl_keyIn (A : PM.Prims) : impl_keyIn_T := impl_keyIn_f A
noncomputable def impl_keyIn_L (A : PM.Prims) (n : Nat) : PM.Lam := fun cur σ K =>
  match cur, σ, K with
  | _, _, _ => none
noncomputable def impl_keyIn_E (A : PM.Prims) : PM.Env := ⟨[], [], [], [(0, [0]), (1, [2])], impl_keyIn_L A A.fuel⟩
theorem impl_keyIn_ok (A : PM.Prims) (slot : Int) (k : PM.V → PM.R) : PM.pfun A cx [] (impl_keyIn_E A) Go.Proofs.Try.f64 [.int .i64 slot] k = impl_keyIn_f A slot (fun r0 => k (.int .i64 r0)) := by kernel_rfl

theorem impl_keyIn_fn : PM.FnIs Try.prog 64 Try.f64 := .of Try.func64 (by kernel_rfl) (by kernel_rfl)
theorem impl_keyIn_g : PM.GOk Try.prog cx 64 ⟨[], impl_keyIn_w (impl_keyIn PM.std), none⟩ := by
  refine ⟨impl_keyIn_fn.enter, fun _ ds k r h => ?_, fun hm => absurd rfl hm, fun _ e => (by cases e)⟩
  change impl_keyIn_w (impl_keyIn PM.std) ds k = some r at h
  unfold impl_keyIn_w at h
  split at h
  · exact PM.pfun_ok (E := impl_keyIn_E PM.std) (L := fun n => impl_keyIn_L PM.std n) (N := PM.std.fuel) cx_ok .nil mixed .nil impl_keyIn_fn (by kernel_rfl) ⟨rfl, fun _ _ _ => rfl, fun n cur σ K r h => by cases h⟩
      ((impl_keyIn_ok PM.std _ k).trans h)
  · cases h

abbrev impl_isKey_T := (Int) → ((Bool) → PM.R) → PM.R
noncomputable def impl_isKey_w (c : impl_isKey_T) (ds : List PM.V) (k : PM.V → PM.R) : PM.R :=
  match ds with
  | [.int .i64 k_] => c k_ (fun r0 => k (.bool r0))
  | _ => none
noncomputable def impl_isKey_f (A : PM.Prims) (c_63 : impl_within_T) (k_ : Int) (k : (Bool) → PM.R) : PM.R :=
  c_63 k_ 0 7 (fun r1 =>
    k r1)
noncomputable def impl_isKey (A : PM.Prims) : impl_isKey_T := impl_isKey_f A (impl_within A)
noncomputable def impl_isKey_L (A : PM.Prims) (c_63 : impl_within_T) (n : Nat) : PM.Lam := fun cur σ K =>
  match cur, σ, K with
  | _, _, _ => none
noncomputable def impl_isKey_E (A : PM.Prims) (c_63 : impl_within_T) : PM.Env := ⟨[(63, ⟨[], impl_within_w c_63, none⟩)], [], [], [(0, [0]), (1, [2])], impl_isKey_L A c_63 A.fuel⟩
theorem impl_isKey_ok (A : PM.Prims) (c_63 : impl_within_T) (k_ : Int) (k : PM.V → PM.R) : PM.pfun A cx [] (impl_isKey_E A c_63) Go.Proofs.Try.f32 [.int .i64 k_] k = impl_isKey_f A c_63 k_ (fun r0 => k (.bool r0)) := by kernel_rfl

theorem impl_isKey_fn : PM.FnIs Try.prog 32 Try.f32 := .of Try.func32 (by kernel_rfl) (by kernel_rfl)
theorem impl_isKey_g : PM.GOk Try.prog cx 32 ⟨[], impl_isKey_w (impl_isKey PM.std), none⟩ := by
  refine ⟨impl_isKey_fn.enter, fun _ ds k r h => ?_, fun hm => absurd rfl hm, fun _ e => (by cases e)⟩
  change impl_isKey_w (impl_isKey PM.std) ds k = some r at h
  unfold impl_isKey_w at h
  split at h
  · exact PM.pfun_ok (E := impl_isKey_E PM.std (impl_within PM.std)) (L := fun n => impl_isKey_L PM.std (impl_within PM.std) n) (N := PM.std.fuel) cx_ok (.cons impl_within_g .nil) mixed .nil impl_isKey_fn (by kernel_rfl) ⟨rfl, fun _ _ _ => rfl, fun n cur σ K r h => by cases h⟩
      ((impl_isKey_ok PM.std (impl_within PM.std) _ k).trans h)
  · cases h

abbrev impl_BucketOf_T := (Int) → ((Int) → PM.R) → PM.R
noncomputable def impl_BucketOf_w (c : impl_BucketOf_T) (ds : List PM.V) (k : PM.V → PM.R) : PM.R :=
  match ds with
  | [.int .i64 key] => c key (fun r0 => k (.int .i64 r0))
  | _ => none
noncomputable def impl_BucketOf_f (A : PM.Prims) (c_32 : impl_isKey_T) (key : Int) (k : (Int) → PM.R) : PM.R :=
  c_32 key (fun r1 =>
    bif (A.not r1) then
      k (-1)
    else
      bif (A.nz 4) then
        k (A.rem .i64 (A.add .i64 (A.mul .i64 7 key) 3) 4)
      else
        none)
noncomputable def impl_BucketOf (A : PM.Prims) : impl_BucketOf_T := impl_BucketOf_f A (impl_isKey A)
noncomputable def impl_BucketOf_L (A : PM.Prims) (c_32 : impl_isKey_T) (n : Nat) : PM.Lam := fun cur σ K =>
  match cur, σ, K with
  | _, _, _ => none
noncomputable def impl_BucketOf_E (A : PM.Prims) (c_32 : impl_isKey_T) : PM.Env := ⟨[(32, ⟨[], impl_isKey_w c_32, none⟩)], [], [], [(0, [0]), (1, [0, 5]), (2, [2]), (3, [2])], impl_BucketOf_L A c_32 A.fuel⟩
theorem impl_BucketOf_ok (A : PM.Prims) (c_32 : impl_isKey_T) (key : Int) (k : PM.V → PM.R) : PM.pfun A cx [] (impl_BucketOf_E A c_32) Go.Proofs.Try.f15 [.int .i64 key] k = impl_BucketOf_f A c_32 key (fun r0 => k (.int .i64 r0)) := by kernel_rfl

theorem impl_BucketOf_fn : PM.FnIs Try.prog 15 Try.f15 := .of Try.func15 (by kernel_rfl) (by kernel_rfl)
theorem impl_BucketOf_g : PM.GOk Try.prog cx 15 ⟨[], impl_BucketOf_w (impl_BucketOf PM.std), none⟩ := by
  refine ⟨impl_BucketOf_fn.enter, fun _ ds k r h => ?_, fun hm => absurd rfl hm, fun _ e => (by cases e)⟩
  change impl_BucketOf_w (impl_BucketOf PM.std) ds k = some r at h
  unfold impl_BucketOf_w at h
  split at h
  · exact PM.pfun_ok (E := impl_BucketOf_E PM.std (impl_isKey PM.std)) (L := fun n => impl_BucketOf_L PM.std (impl_isKey PM.std) n) (N := PM.std.fuel) cx_ok (.cons impl_isKey_g .nil) mixed .nil impl_BucketOf_fn (by kernel_rfl) ⟨rfl, fun _ _ _ => rfl, fun n cur σ K r h => by cases h⟩
      ((impl_BucketOf_ok PM.std (impl_isKey PM.std) _ k).trans h)
  · cases h

abbrev impl_SlotsOk_T := (List Int) → ((Bool) → PM.R) → PM.R
noncomputable def impl_SlotsOk_w (c : impl_SlotsOk_T) (ds : List PM.V) (k : PM.V → PM.R) : PM.R :=
  match ds with
  | [.arr (.ints 3 .i64 l)] => c l (fun r0 => k (.bool r0))
  | _ => none
noncomputable def impl_SlotsOk_l0 (A : PM.Prims) (c_35 : impl_slotOf_T) (c_63 : impl_within_T) (c_64 : impl_keyIn_T) (c_15 : impl_BucketOf_T) : Nat → (List Int) → (Int) → (Int) → (List Bool) → ((Bool) → PM.R) → (Unit → PM.R) → PM.R
  | 0, _, _, _, _, _, _ => none
  | n + 1, t91, t102, t113, o04, kret_0, kx0_0 =>
    bif (A.lt t113 t102) then
      bif (A.inb t113 (A.ilen t91)) then
        bif (A.eq (A.iget t91 t113) 0) then
          impl_SlotsOk_l0 A c_35 c_63 c_64 c_15 n t91 t102 (A.add .i64 t113 1) o04 kret_0 kx0_0
        else
          c_35 7 65535 (fun r5 =>
            c_63 (A.iget t91 t113) 1 r5 (fun r6 =>
              bif (A.not r6) then
                kret_0 false
              else
                c_64 (A.iget t91 t113) (fun r8 =>
                  c_15 r8 (fun r9 =>
                    bif (A.nz 4) then
                      bif (A.not (A.eq r9 (A.quo .i64 t113 4))) then
                        kret_0 false
                      else
                        c_64 (A.iget t91 t113) (fun r10 =>
                          bif (A.inb r10 (A.blen o04)) then
                            bif (A.bget o04 r10) then
                              kret_0 false
                            else
                              c_64 (A.iget t91 t113) (fun r11 =>
                                bif (A.inb r11 (A.blen o04)) then
                                  impl_SlotsOk_l0 A c_35 c_63 c_64 c_15 n t91 t102 (A.add .i64 t113 1) (A.bset o04 r11 true) kret_0 kx0_0
                                else
                                  none)
                          else
                            none)
                    else
                      none))))
      else
        none
    else
      kx0_0 ()
noncomputable def impl_SlotsOk_f (A : PM.Prims) (c_35 : impl_slotOf_T) (c_63 : impl_within_T) (c_64 : impl_keyIn_T) (c_15 : impl_BucketOf_T) (l : List Int) (k : (Bool) → PM.R) : PM.R :=
  bif (A.not (A.eq (A.ilen l) 16)) then
    k false
  else
    impl_SlotsOk_l0 A c_35 c_63 c_64 c_15 A.fuel l (A.ilen l) 0 (A.bzero (8)) (fun t2712 =>
      k t2712) (fun _ =>
      k true)
noncomputable def impl_SlotsOk (A : PM.Prims) : impl_SlotsOk_T := impl_SlotsOk_f A (impl_slotOf A) (impl_within A) (impl_keyIn A) (impl_BucketOf A)
noncomputable def impl_SlotsOk_L (A : PM.Prims) (c_35 : impl_slotOf_T) (c_63 : impl_within_T) (c_64 : impl_keyIn_T) (c_15 : impl_BucketOf_T) (n : Nat) : PM.Lam := fun cur σ K =>
  match cur, σ, K with
  | 0, ⟨[(3, .parr 0 8), (9, .arr (.ints 3 .i64 t91)), (10, .int .i64 t102), (11, .int .i64 t113)], [(0, .arr true (.bools 79 o04))]⟩, K => impl_SlotsOk_l0 A c_35 c_63 c_64 c_15 n t91 t102 t113 o04 (fun t27 => K .ret ⟨[(2, .bool t27)], []⟩) (fun _ => K (.exit 0) ⟨[], []⟩)
  | _, _, _ => none
noncomputable def impl_SlotsOk_E (A : PM.Prims) (c_35 : impl_slotOf_T) (c_63 : impl_within_T) (c_64 : impl_keyIn_T) (c_15 : impl_BucketOf_T) : PM.Env := ⟨[(35, ⟨[], impl_slotOf_w c_35, none⟩), (63, ⟨[], impl_within_w c_63, none⟩), (64, ⟨[], impl_keyIn_w c_64, none⟩), (15, ⟨[], impl_BucketOf_w c_15, none⟩)], [], [(0, [3, 9, 10, 11], [2])], [(0, [0]), (1, [0, 8]), (2, [2]), (3, [0, 3]), (4, [3, 9, 10, 11]), (5, [3, 9, 10, 11, 12]), (6, [3, 4, 5, 9, 10, 11]), (7, [3, 4, 5, 9, 10, 11, 17]), (8, [3, 5, 9, 10, 11, 35]), (9, [2]), (10, [3, 9, 10, 11]), (11, [3, 9, 10, 11]), (12, [2])], impl_SlotsOk_L A c_35 c_63 c_64 c_15 A.fuel⟩
theorem impl_SlotsOk_l0_ok (A : PM.Prims) (c_35 : impl_slotOf_T) (c_63 : impl_within_T) (c_64 : impl_keyIn_T) (c_15 : impl_BucketOf_T) (n : Nat) (t91 : List Int) (t102 : Int) (t113 : Int) (o04 : List Bool) (K : Go.Exit → PM.S → PM.R) : impl_SlotsOk_L A c_35 c_63 c_64 c_15 (n + 1) 0 ⟨[(3, .parr 0 8), (9, .arr (.ints 3 .i64 t91)), (10, .int .i64 t102), (11, .int .i64 t113)], [(0, .arr true (.bools 79 o04))]⟩ K = PM.roundF A cx (PM.runD A cx (impl_SlotsOk_E A c_35 c_63 c_64 c_15).inl (impl_SlotsOk_E A c_35 c_63 c_64 c_15).Γ 3) (impl_SlotsOk_E A c_35 c_63 c_64 c_15) (impl_SlotsOk_L A c_35 c_63 c_64 c_15 n) 0 Go.Proofs.Try.f31 ⟨[(3, .parr 0 8), (9, .arr (.ints 3 .i64 t91)), (10, .int .i64 t102), (11, .int .i64 t113)], [(0, .arr true (.bools 79 o04))]⟩ K := by kernel_rfl
theorem impl_SlotsOk_ok (A : PM.Prims) (c_35 : impl_slotOf_T) (c_63 : impl_within_T) (c_64 : impl_keyIn_T) (c_15 : impl_BucketOf_T) (l : List Int) (k : PM.V → PM.R) : PM.pfun A cx [] (impl_SlotsOk_E A c_35 c_63 c_64 c_15) Go.Proofs.Try.f31 [.arr (.ints 3 .i64 l)] k = impl_SlotsOk_f A c_35 c_63 c_64 c_15 l (fun r0 => k (.bool r0)) := by kernel_rfl

theorem impl_SlotsOk_fn : PM.FnIs Try.prog 31 Try.f31 := .of Try.func31 (by kernel_rfl) (by kernel_rfl)
theorem impl_SlotsOk_g : PM.GOk Try.prog cx 31 ⟨[], impl_SlotsOk_w (impl_SlotsOk PM.std), none⟩ := by
  refine ⟨impl_SlotsOk_fn.enter, fun _ ds k r h => ?_, fun hm => absurd rfl hm, fun _ e => (by cases e)⟩
  change impl_SlotsOk_w (impl_SlotsOk PM.std) ds k = some r at h
  unfold impl_SlotsOk_w at h
  split at h
  · exact PM.pfun_ok (E := impl_SlotsOk_E PM.std (impl_slotOf PM.std) (impl_within PM.std) (impl_keyIn PM.std) (impl_BucketOf PM.std)) (L := fun n => impl_SlotsOk_L PM.std (impl_slotOf PM.std) (impl_within PM.std) (impl_keyIn PM.std) (impl_BucketOf PM.std) n) (N := PM.std.fuel) cx_ok (.cons impl_slotOf_g (.cons impl_within_g (.cons impl_keyIn_g (.cons impl_BucketOf_g .nil)))) mixed .nil impl_SlotsOk_fn (by kernel_rfl) ⟨rfl, fun cur σ K => by
      dsimp only [impl_SlotsOk_L]
      split <;> rfl, fun n cur σ K r h => by
      dsimp only [impl_SlotsOk_L] at h
      split at h
      · exact (impl_SlotsOk_l0_ok PM.std (impl_slotOf PM.std) (impl_within PM.std) (impl_keyIn PM.std) (impl_BucketOf PM.std) n _ _ _ _ K).symm.trans h
      · cases h⟩
      ((impl_SlotsOk_ok PM.std (impl_slotOf PM.std) (impl_within PM.std) (impl_keyIn PM.std) (impl_BucketOf PM.std) _ k).trans h)
  · cases h

abbrev impl_isValue_T := (Int) → ((Bool) → PM.R) → PM.R
noncomputable def impl_isValue_w (c : impl_isValue_T) (ds : List PM.V) (k : PM.V → PM.R) : PM.R :=
  match ds with
  | [.int .i64 v] => c v (fun r0 => k (.bool r0))
  | _ => none
noncomputable def impl_isValue_f (A : PM.Prims) (c_63 : impl_within_T) (v : Int) (k : (Bool) → PM.R) : PM.R :=
  c_63 v 0 65535 (fun r1 =>
    k r1)
noncomputable def impl_isValue (A : PM.Prims) : impl_isValue_T := impl_isValue_f A (impl_within A)
noncomputable def impl_isValue_L (A : PM.Prims) (c_63 : impl_within_T) (n : Nat) : PM.Lam := fun cur σ K =>
  match cur, σ, K with
  | _, _, _ => none
noncomputable def impl_isValue_E (A : PM.Prims) (c_63 : impl_within_T) : PM.Env := ⟨[(63, ⟨[], impl_within_w c_63, none⟩)], [], [], [(0, [0]), (1, [2])], impl_isValue_L A c_63 A.fuel⟩
theorem impl_isValue_ok (A : PM.Prims) (c_63 : impl_within_T) (v : Int) (k : PM.V → PM.R) : PM.pfun A cx [] (impl_isValue_E A c_63) Go.Proofs.Try.f33 [.int .i64 v] k = impl_isValue_f A c_63 v (fun r0 => k (.bool r0)) := by kernel_rfl

theorem impl_isValue_fn : PM.FnIs Try.prog 33 Try.f33 := .of Try.func33 (by kernel_rfl) (by kernel_rfl)
theorem impl_isValue_g : PM.GOk Try.prog cx 33 ⟨[], impl_isValue_w (impl_isValue PM.std), none⟩ := by
  refine ⟨impl_isValue_fn.enter, fun _ ds k r h => ?_, fun hm => absurd rfl hm, fun _ e => (by cases e)⟩
  change impl_isValue_w (impl_isValue PM.std) ds k = some r at h
  unfold impl_isValue_w at h
  split at h
  · exact PM.pfun_ok (E := impl_isValue_E PM.std (impl_within PM.std)) (L := fun n => impl_isValue_L PM.std (impl_within PM.std) n) (N := PM.std.fuel) cx_ok (.cons impl_within_g .nil) mixed .nil impl_isValue_fn (by kernel_rfl) ⟨rfl, fun _ _ _ => rfl, fun n cur σ K r h => by cases h⟩
      ((impl_isValue_ok PM.std (impl_within PM.std) _ k).trans h)
  · cases h

abbrev impl_find_T := (List Int) → (Int) → ((Int) → PM.R) → PM.R
noncomputable def impl_find_w (c : impl_find_T) (ds : List PM.V) (k : PM.V → PM.R) : PM.R :=
  match ds with
  | [.arr (.ints 3 .i64 l), .int .i64 key] => c l key (fun r0 => k (.int .i64 r0))
  | _ => none
noncomputable def impl_find_l0 (A : PM.Prims) (c_64 : impl_keyIn_T) : Nat → (Int) → (List Int) → (Int) → (Int) → ((Int) → PM.R) → (Unit → PM.R) → PM.R
  | 0, _, _, _, _, _, _ => none
  | n + 1, key1, t72, t83, t94, kret_0, kx0_0 =>
    bif (A.lt t94 t83) then
      bif (A.inb t94 (A.ilen t72)) then
        bif (A.lt 0 (A.iget t72 t94)) then
          c_64 (A.iget t72 t94) (fun r5 =>
            bif (A.eq r5 key1) then
              kret_0 t94
            else
              impl_find_l0 A c_64 n key1 t72 t83 (A.add .i64 t94 1) kret_0 kx0_0)
        else
          impl_find_l0 A c_64 n key1 t72 t83 (A.add .i64 t94 1) kret_0 kx0_0
      else
        none
    else
      kx0_0 ()
noncomputable def impl_find_f (A : PM.Prims) (c_64 : impl_keyIn_T) (l : List Int) (key : Int) (k : (Int) → PM.R) : PM.R :=
  impl_find_l0 A c_64 A.fuel key l (A.ilen l) 0 (fun t467 =>
    k t467) (fun _ =>
    k (-1))
noncomputable def impl_find (A : PM.Prims) : impl_find_T := impl_find_f A (impl_keyIn A)
noncomputable def impl_find_L (A : PM.Prims) (c_64 : impl_keyIn_T) (n : Nat) : PM.Lam := fun cur σ K =>
  match cur, σ, K with
  | 0, ⟨[(1, .int .i64 key1), (7, .arr (.ints 3 .i64 t72)), (8, .int .i64 t83), (9, .int .i64 t94)], []⟩, K => impl_find_l0 A c_64 n key1 t72 t83 t94 (fun t46 => K .ret ⟨[(4, .int .i64 t46)], []⟩) (fun _ => K (.exit 0) ⟨[], []⟩)
  | _, _, _ => none
noncomputable def impl_find_E (A : PM.Prims) (c_64 : impl_keyIn_T) : PM.Env := ⟨[(64, ⟨[], impl_keyIn_w c_64, none⟩)], [], [(0, [1, 7, 8, 9], [4])], [(0, [0, 1]), (1, [1, 7, 8, 9]), (2, [1, 7, 8, 9, 10]), (3, [1, 5, 6, 7, 8, 9]), (4, [1, 5, 7, 8, 9, 21]), (5, [4]), (6, [1, 7, 8, 9]), (7, [4])], impl_find_L A c_64 A.fuel⟩
theorem impl_find_l0_ok (A : PM.Prims) (c_64 : impl_keyIn_T) (n : Nat) (key1 : Int) (t72 : List Int) (t83 : Int) (t94 : Int) (K : Go.Exit → PM.S → PM.R) : impl_find_L A c_64 (n + 1) 0 ⟨[(1, .int .i64 key1), (7, .arr (.ints 3 .i64 t72)), (8, .int .i64 t83), (9, .int .i64 t94)], []⟩ K = PM.roundF A cx (PM.runD A cx (impl_find_E A c_64).inl (impl_find_E A c_64).Γ 3) (impl_find_E A c_64) (impl_find_L A c_64 n) 0 Go.Proofs.Try.f34 ⟨[(1, .int .i64 key1), (7, .arr (.ints 3 .i64 t72)), (8, .int .i64 t83), (9, .int .i64 t94)], []⟩ K := by kernel_rfl
theorem impl_find_ok (A : PM.Prims) (c_64 : impl_keyIn_T) (l : List Int) (key : Int) (k : PM.V → PM.R) : PM.pfun A cx [] (impl_find_E A c_64) Go.Proofs.Try.f34 [.arr (.ints 3 .i64 l), .int .i64 key] k = impl_find_f A c_64 l key (fun r0 => k (.int .i64 r0)) := by kernel_rfl

theorem impl_find_fn : PM.FnIs Try.prog 34 Try.f34 := .of Try.func34 (by kernel_rfl) (by kernel_rfl)
theorem impl_find_g : PM.GOk Try.prog cx 34 ⟨[], impl_find_w (impl_find PM.std), none⟩ := by
  refine ⟨impl_find_fn.enter, fun _ ds k r h => ?_, fun hm => absurd rfl hm, fun _ e => (by cases e)⟩
  change impl_find_w (impl_find PM.std) ds k = some r at h
  unfold impl_find_w at h
  split at h
  · exact PM.pfun_ok (E := impl_find_E PM.std (impl_keyIn PM.std)) (L := fun n => impl_find_L PM.std (impl_keyIn PM.std) n) (N := PM.std.fuel) cx_ok (.cons impl_keyIn_g .nil) mixed .nil impl_find_fn (by kernel_rfl) ⟨rfl, fun cur σ K => by
      dsimp only [impl_find_L]
      split <;> rfl, fun n cur σ K r h => by
      dsimp only [impl_find_L] at h
      split at h
      · exact (impl_find_l0_ok PM.std (impl_keyIn PM.std) n _ _ _ _ K).symm.trans h
      · cases h⟩
      ((impl_find_ok PM.std (impl_keyIn PM.std) _ _ k).trans h)
  · cases h

abbrev impl_SlotGet_T := (List Int) → (Int) → ((Int) → (Bool) → PM.R) → PM.R
noncomputable def impl_SlotGet_w (c : impl_SlotGet_T) (ds : List PM.V) (k : PM.V → PM.R) : PM.R :=
  match ds with
  | [.arr (.ints 3 .i64 l), .int .i64 key] => c l key (fun r0 r1 => k (.tup [.int .i64 r0, .bool r1]))
  | _ => none
noncomputable def impl_SlotGet_f (A : PM.Prims) (c_32 : impl_isKey_T) (c_31 : impl_SlotsOk_T) (c_34 : impl_find_T) (l : List Int) (key : Int) (k : (Int) → (Bool) → PM.R) : PM.R :=
  c_31 l (fun r1 =>
    bif (A.not r1) then
      k 0 false
    else
      c_32 key (fun r2 =>
        bif (A.not r2) then
          k 0 false
        else
          c_34 l key (fun r3 =>
            bif (A.lt r3 0) then
              k 0 false
            else
              c_34 l key (fun r4 =>
                bif (A.inb r4 (A.ilen l)) then
                  bif (A.nz 65536) then
                    k (A.rem .i64 (A.sub .i64 (A.iget l r4) 1) 65536) true
                  else
                    none
                else
                  none))))
noncomputable def impl_SlotGet (A : PM.Prims) : impl_SlotGet_T := impl_SlotGet_f A (impl_isKey A) (impl_SlotsOk A) (impl_find A)
noncomputable def impl_SlotGet_L (A : PM.Prims) (c_32 : impl_isKey_T) (c_31 : impl_SlotsOk_T) (c_34 : impl_find_T) (n : Nat) : PM.Lam := fun cur σ K =>
  match cur, σ, K with
  | _, _, _ => none
noncomputable def impl_SlotGet_E (A : PM.Prims) (c_32 : impl_isKey_T) (c_31 : impl_SlotsOk_T) (c_34 : impl_find_T) : PM.Env := ⟨[(32, ⟨[], impl_isKey_w c_32, none⟩), (31, ⟨[], impl_SlotsOk_w c_31, none⟩), (34, ⟨[], impl_find_w c_34, none⟩)], [], [], [(0, [0, 1]), (1, [0, 1, 19]), (2, [4, 5]), (3, [4, 5])], impl_SlotGet_L A c_32 c_31 c_34 A.fuel⟩
theorem impl_SlotGet_ok (A : PM.Prims) (c_32 : impl_isKey_T) (c_31 : impl_SlotsOk_T) (c_34 : impl_find_T) (l : List Int) (key : Int) (k : PM.V → PM.R) : PM.pfun A cx [] (impl_SlotGet_E A c_32 c_31 c_34) Go.Proofs.Try.f12 [.arr (.ints 3 .i64 l), .int .i64 key] k = impl_SlotGet_f A c_32 c_31 c_34 l key (fun r0 r1 => k (.tup [.int .i64 r0, .bool r1])) := by kernel_rfl

theorem impl_SlotGet_fn : PM.FnIs Try.prog 12 Try.f12 := .of Try.func12 (by kernel_rfl) (by kernel_rfl)
theorem impl_SlotGet_g : PM.GOk Try.prog cx 12 ⟨[], impl_SlotGet_w (impl_SlotGet PM.std), none⟩ := by
  refine ⟨impl_SlotGet_fn.enter, fun _ ds k r h => ?_, fun hm => absurd rfl hm, fun _ e => (by cases e)⟩
  change impl_SlotGet_w (impl_SlotGet PM.std) ds k = some r at h
  unfold impl_SlotGet_w at h
  split at h
  · exact PM.pfun_ok (E := impl_SlotGet_E PM.std (impl_isKey PM.std) (impl_SlotsOk PM.std) (impl_find PM.std)) (L := fun n => impl_SlotGet_L PM.std (impl_isKey PM.std) (impl_SlotsOk PM.std) (impl_find PM.std) n) (N := PM.std.fuel) cx_ok (.cons impl_isKey_g (.cons impl_SlotsOk_g (.cons impl_find_g .nil))) mixed .nil impl_SlotGet_fn (by kernel_rfl) ⟨rfl, fun _ _ _ => rfl, fun n cur σ K r h => by cases h⟩
      ((impl_SlotGet_ok PM.std (impl_isKey PM.std) (impl_SlotsOk PM.std) (impl_find PM.std) _ _ k).trans h)
  · cases h

abbrev impl_SlotPut_T := (List Int) → (Int) → (Int) → ((List Int) → (Int) → (Bool) → PM.R) → PM.R
noncomputable def impl_SlotPut_w (c : impl_SlotPut_T) (ds : List PM.V) (k : PM.V → PM.R) : PM.R :=
  match ds with
  | [.arr (.ints 3 .i64 __), .int .i64 a, .int .i64 r] => c __ a r (fun r0 r1 r2 => k (.tup [.arr (.ints 3 .i64 r0), .int .i64 r1, .bool r2]))
  | _ => none
noncomputable def impl_SlotPut_l0 (A : PM.Prims) (c_30 : impl_copyInts_T) (c_35 : impl_slotOf_T) (c_32 : impl_isKey_T) (c_15 : impl_BucketOf_T) (c_31 : impl_SlotsOk_T) (c_33 : impl_isValue_T) (c_34 : impl_find_T) (c_12 : impl_SlotGet_T) : Nat → (Int) → (Int) → (Int) → (List Int) → ((Int) → (Int) → (Int) → (List Int) → PM.R) → PM.R
  | 0, _, _, _, _, _ => none
  | n + 1, key10, v11, at12, o013, kx0_0 =>
    bif (A.inb at12 (A.ilen o013)) then
      bif (A.not (A.eq (A.iget o013 at12) 0)) then
        impl_SlotPut_l0 A c_30 c_35 c_32 c_15 c_31 c_33 c_34 c_12 n key10 v11 (A.add .i64 at12 1) o013 kx0_0
      else
        kx0_0 key10 v11 at12 o013
    else
      none
noncomputable def impl_SlotPut_f (A : PM.Prims) (c_30 : impl_copyInts_T) (c_35 : impl_slotOf_T) (c_32 : impl_isKey_T) (c_15 : impl_BucketOf_T) (c_31 : impl_SlotsOk_T) (c_33 : impl_isValue_T) (c_34 : impl_find_T) (c_12 : impl_SlotGet_T) (__ : List Int) (a : Int) (r : Int) (k : (List Int) → (Int) → (Bool) → PM.R) : PM.R :=
  c_30 __ (fun r1 =>
    c_31 __ (fun r2 =>
      bif (A.not r2) then
        k r1 0 false
      else
        c_32 a (fun r3 =>
          bif (A.not r3) then
            k r1 0 false
          else
            c_33 r (fun r4 =>
              bif (A.not r4) then
                k r1 0 false
              else
                c_34 __ a (fun r5 =>
                  bif (A.le 0 r5) then
                    c_12 __ a (fun r6 r7 =>
                      c_35 a r (fun r8 =>
                        bif (A.inb r5 (A.ilen r1)) then
                          k (A.iset r1 r5 r8) (A.add .i64 r6 1) true
                        else
                          none))
                  else
                    c_15 a (fun r9 =>
                      impl_SlotPut_l0 A c_30 c_35 c_32 c_15 c_31 c_33 c_34 c_12 A.fuel a r (A.mul .i64 4 r9) r1 (fun key1418 v1519 at1620 o01721 =>
                        c_35 key1418 v1519 (fun r22 =>
                          bif (A.inb at1620 (A.ilen o01721)) then
                            k (A.iset o01721 at1620 r22) 0 true
                          else
                            none))))))))
noncomputable def impl_SlotPut (A : PM.Prims) : impl_SlotPut_T := impl_SlotPut_f A (impl_copyInts A) (impl_slotOf A) (impl_isKey A) (impl_BucketOf A) (impl_SlotsOk A) (impl_isValue A) (impl_find A) (impl_SlotGet A)
noncomputable def impl_SlotPut_L (A : PM.Prims) (c_30 : impl_copyInts_T) (c_35 : impl_slotOf_T) (c_32 : impl_isKey_T) (c_15 : impl_BucketOf_T) (c_31 : impl_SlotsOk_T) (c_33 : impl_isValue_T) (c_34 : impl_find_T) (c_12 : impl_SlotGet_T) (n : Nat) : PM.Lam := fun cur σ K =>
  match cur, σ, K with
  | 0, ⟨[(1, .int .i64 key10), (2, .int .i64 v11), (9, .sref 0), (13, .int .i64 at12)], [(0, .arr true (.ints 3 .i64 o013))]⟩, K => impl_SlotPut_l0 A c_30 c_35 c_32 c_15 c_31 c_33 c_34 c_12 n key10 v11 at12 o013 (fun key14 v15 at16 o017 => K (.exit 0) ⟨[(1, .int .i64 key14), (2, .int .i64 v15), (9, .sref 0), (13, .int .i64 at16)], [(0, .arr true (.ints 3 .i64 o017))]⟩)
  | _, _, _ => none
noncomputable def impl_SlotPut_E (A : PM.Prims) (c_30 : impl_copyInts_T) (c_35 : impl_slotOf_T) (c_32 : impl_isKey_T) (c_15 : impl_BucketOf_T) (c_31 : impl_SlotsOk_T) (c_33 : impl_isValue_T) (c_34 : impl_find_T) (c_12 : impl_SlotGet_T) : PM.Env := ⟨[(30, ⟨[], impl_copyInts_w c_30, none⟩), (35, ⟨[], impl_slotOf_w c_35, none⟩), (32, ⟨[], impl_isKey_w c_32, none⟩), (15, ⟨[], impl_BucketOf_w c_15, none⟩), (31, ⟨[], impl_SlotsOk_w c_31, none⟩), (33, ⟨[], impl_isValue_w c_33, none⟩), (34, ⟨[], impl_find_w c_34, none⟩), (12, ⟨[], impl_SlotGet_w c_12, none⟩)], [], [(0, [1, 2, 9, 13], [1, 2, 6, 7, 8, 9, 13])], [(0, [0, 1, 2]), (1, [0, 1, 2, 9]), (2, [0, 1, 2, 9, 28]), (3, [6, 7, 8]), (4, [0, 1, 2, 9, 10]), (5, [0, 1, 2, 9, 10, 34]), (6, [1, 2, 9, 10, 11]), (7, [9, 11]), (8, [6, 7, 8]), (9, [1, 2, 9, 13]), (10, [1, 2, 9, 13, 57]), (11, [1, 2, 9, 13]), (12, [9]), (13, [6, 7, 8])], impl_SlotPut_L A c_30 c_35 c_32 c_15 c_31 c_33 c_34 c_12 A.fuel⟩
theorem impl_SlotPut_l0_ok (A : PM.Prims) (c_30 : impl_copyInts_T) (c_35 : impl_slotOf_T) (c_32 : impl_isKey_T) (c_15 : impl_BucketOf_T) (c_31 : impl_SlotsOk_T) (c_33 : impl_isValue_T) (c_34 : impl_find_T) (c_12 : impl_SlotGet_T) (n : Nat) (key10 : Int) (v11 : Int) (at12 : Int) (o013 : List Int) (K : Go.Exit → PM.S → PM.R) : impl_SlotPut_L A c_30 c_35 c_32 c_15 c_31 c_33 c_34 c_12 (n + 1) 0 ⟨[(1, .int .i64 key10), (2, .int .i64 v11), (9, .sref 0), (13, .int .i64 at12)], [(0, .arr true (.ints 3 .i64 o013))]⟩ K = PM.roundF A cx (PM.runD A cx (impl_SlotPut_E A c_30 c_35 c_32 c_15 c_31 c_33 c_34 c_12).inl (impl_SlotPut_E A c_30 c_35 c_32 c_15 c_31 c_33 c_34 c_12).Γ 3) (impl_SlotPut_E A c_30 c_35 c_32 c_15 c_31 c_33 c_34 c_12) (impl_SlotPut_L A c_30 c_35 c_32 c_15 c_31 c_33 c_34 c_12 n) 0 Go.Proofs.Try.f8 ⟨[(1, .int .i64 key10), (2, .int .i64 v11), (9, .sref 0), (13, .int .i64 at12)], [(0, .arr true (.ints 3 .i64 o013))]⟩ K := by kernel_rfl
theorem impl_SlotPut_ok (A : PM.Prims) (c_30 : impl_copyInts_T) (c_35 : impl_slotOf_T) (c_32 : impl_isKey_T) (c_15 : impl_BucketOf_T) (c_31 : impl_SlotsOk_T) (c_33 : impl_isValue_T) (c_34 : impl_find_T) (c_12 : impl_SlotGet_T) (__ : List Int) (a : Int) (r : Int) (k : PM.V → PM.R) : PM.pfun A cx [] (impl_SlotPut_E A c_30 c_35 c_32 c_15 c_31 c_33 c_34 c_12) Go.Proofs.Try.f8 [.arr (.ints 3 .i64 __), .int .i64 a, .int .i64 r] k = impl_SlotPut_f A c_30 c_35 c_32 c_15 c_31 c_33 c_34 c_12 __ a r (fun r0 r1 r2 => k (.tup [.arr (.ints 3 .i64 r0), .int .i64 r1, .bool r2])) := by kernel_rfl

theorem impl_SlotPut_fn : PM.FnIs Try.prog 8 Try.f8 := .of Try.func8 (by kernel_rfl) (by kernel_rfl)
theorem impl_SlotPut_g : PM.GOk Try.prog cx 8 ⟨[], impl_SlotPut_w (impl_SlotPut PM.std), none⟩ := by
  refine ⟨impl_SlotPut_fn.enter, fun _ ds k r h => ?_, fun hm => absurd rfl hm, fun _ e => (by cases e)⟩
  change impl_SlotPut_w (impl_SlotPut PM.std) ds k = some r at h
  unfold impl_SlotPut_w at h
  split at h
  · exact PM.pfun_ok (E := impl_SlotPut_E PM.std (impl_copyInts PM.std) (impl_slotOf PM.std) (impl_isKey PM.std) (impl_BucketOf PM.std) (impl_SlotsOk PM.std) (impl_isValue PM.std) (impl_find PM.std) (impl_SlotGet PM.std)) (L := fun n => impl_SlotPut_L PM.std (impl_copyInts PM.std) (impl_slotOf PM.std) (impl_isKey PM.std) (impl_BucketOf PM.std) (impl_SlotsOk PM.std) (impl_isValue PM.std) (impl_find PM.std) (impl_SlotGet PM.std) n) (N := PM.std.fuel) cx_ok (.cons impl_copyInts_g (.cons impl_slotOf_g (.cons impl_isKey_g (.cons impl_BucketOf_g (.cons impl_SlotsOk_g (.cons impl_isValue_g (.cons impl_find_g (.cons impl_SlotGet_g .nil)))))))) mixed .nil impl_SlotPut_fn (by kernel_rfl) ⟨rfl, fun cur σ K => by
      dsimp only [impl_SlotPut_L]
      split <;> rfl, fun n cur σ K r h => by
      dsimp only [impl_SlotPut_L] at h
      split at h
      · exact (impl_SlotPut_l0_ok PM.std (impl_copyInts PM.std) (impl_slotOf PM.std) (impl_isKey PM.std) (impl_BucketOf PM.std) (impl_SlotsOk PM.std) (impl_isValue PM.std) (impl_find PM.std) (impl_SlotGet PM.std) n _ _ _ _ K).symm.trans h
      · cases h⟩
      ((impl_SlotPut_ok PM.std (impl_copyInts PM.std) (impl_slotOf PM.std) (impl_isKey PM.std) (impl_BucketOf PM.std) (impl_SlotsOk PM.std) (impl_isValue PM.std) (impl_find PM.std) (impl_SlotGet PM.std) _ _ _ k).trans h)
  · cases h

abbrev laws_sameInts_T := (List Int) → (List Int) → ((Bool) → PM.R) → PM.R
noncomputable def laws_sameInts_w (c : laws_sameInts_T) (ds : List PM.V) (k : PM.V → PM.R) : PM.R :=
  match ds with
  | [.arr (.ints 3 .i64 a), .arr (.ints 3 .i64 b)] => c a b (fun r0 => k (.bool r0))
  | _ => none
noncomputable def laws_sameInts_l0 (A : PM.Prims) : Nat → (List Int) → (List Int) → (Int) → ((Bool) → PM.R) → (Unit → PM.R) → PM.R
  | 0, _, _, _, _, _ => none
  | n + 1, a1, b2, i3, kret_0, kx0_0 =>
    bif (A.lt i3 (A.ilen a1)) then
      bif (A.inb i3 (A.ilen a1)) then
        bif (A.inb i3 (A.ilen b2)) then
          bif (A.not (A.eq (A.iget a1 i3) (A.iget b2 i3))) then
            kret_0 false
          else
            laws_sameInts_l0 A n a1 b2 (A.add .i64 i3 1) kret_0 kx0_0
        else
          none
      else
        none
    else
      kx0_0 ()
noncomputable def laws_sameInts_f (A : PM.Prims) (a : List Int) (b : List Int) (k : (Bool) → PM.R) : PM.R :=
  bif (A.not (A.eq (A.ilen a) (A.ilen b))) then
    k false
  else
    laws_sameInts_l0 A A.fuel a b 0 (fun t445 =>
      k t445) (fun _ =>
      k true)
noncomputable def laws_sameInts (A : PM.Prims) : laws_sameInts_T := laws_sameInts_f A
noncomputable def laws_sameInts_L (A : PM.Prims) (n : Nat) : PM.Lam := fun cur σ K =>
  match cur, σ, K with
  | 0, ⟨[(0, .arr (.ints 3 .i64 a1)), (1, .arr (.ints 3 .i64 b2)), (5, .int .i64 i3)], []⟩, K => laws_sameInts_l0 A n a1 b2 i3 (fun t44 => K .ret ⟨[(4, .bool t44)], []⟩) (fun _ => K (.exit 0) ⟨[], []⟩)
  | _, _, _ => none
noncomputable def laws_sameInts_E (A : PM.Prims) : PM.Env := ⟨[], [], [(0, [0, 1, 5], [4])], [(0, [0, 1]), (1, [0, 1, 10]), (2, [4]), (3, [0, 1, 5]), (4, [0, 1, 5, 14]), (5, [0, 1, 5]), (6, [0, 1, 5, 25]), (7, [4]), (8, [4])], laws_sameInts_L A A.fuel⟩
theorem laws_sameInts_l0_ok (A : PM.Prims) (n : Nat) (a1 : List Int) (b2 : List Int) (i3 : Int) (K : Go.Exit → PM.S → PM.R) : laws_sameInts_L A (n + 1) 0 ⟨[(0, .arr (.ints 3 .i64 a1)), (1, .arr (.ints 3 .i64 b2)), (5, .int .i64 i3)], []⟩ K = PM.roundF A cx (PM.runD A cx (laws_sameInts_E A).inl (laws_sameInts_E A).Γ 3) (laws_sameInts_E A) (laws_sameInts_L A n) 0 Go.Proofs.Try.f10 ⟨[(0, .arr (.ints 3 .i64 a1)), (1, .arr (.ints 3 .i64 b2)), (5, .int .i64 i3)], []⟩ K := by kernel_rfl
theorem laws_sameInts_ok (A : PM.Prims) (a : List Int) (b : List Int) (k : PM.V → PM.R) : PM.pfun A cx [] (laws_sameInts_E A) Go.Proofs.Try.f10 [.arr (.ints 3 .i64 a), .arr (.ints 3 .i64 b)] k = laws_sameInts_f A a b (fun r0 => k (.bool r0)) := by kernel_rfl

theorem laws_sameInts_fn : PM.FnIs Try.prog 10 Try.f10 := .of Try.func10 (by kernel_rfl) (by kernel_rfl)
theorem laws_sameInts_g : PM.GOk Try.prog cx 10 ⟨[], laws_sameInts_w (laws_sameInts PM.std), none⟩ := by
  refine ⟨laws_sameInts_fn.enter, fun _ ds k r h => ?_, fun hm => absurd rfl hm, fun _ e => (by cases e)⟩
  change laws_sameInts_w (laws_sameInts PM.std) ds k = some r at h
  unfold laws_sameInts_w at h
  split at h
  · exact PM.pfun_ok (E := laws_sameInts_E PM.std) (L := fun n => laws_sameInts_L PM.std n) (N := PM.std.fuel) cx_ok .nil mixed .nil laws_sameInts_fn (by kernel_rfl) ⟨rfl, fun cur σ K => by
      dsimp only [laws_sameInts_L]
      split <;> rfl, fun n cur σ K r h => by
      dsimp only [laws_sameInts_L] at h
      split at h
      · exact (laws_sameInts_l0_ok PM.std n _ _ _ K).symm.trans h
      · cases h⟩
      ((laws_sameInts_ok PM.std _ _ k).trans h)
  · cases h

abbrev impl_MapOf_T := (List Int) → ((List Int) → PM.R) → PM.R
noncomputable def impl_MapOf_w (c : impl_MapOf_T) (ds : List PM.V) (k : PM.V → PM.R) : PM.R :=
  match ds with
  | [.arr (.ints 3 .i64 l)] => c l (fun r0 => k (.arr (.ints 3 .i64 r0)))
  | _ => none
noncomputable def impl_MapOf_l0 (A : PM.Prims) (c_31 : impl_SlotsOk_T) (c_12 : impl_SlotGet_T) : Nat → (List Int) → (Int) → (List Int) → ((List Int) → PM.R) → PM.R
  | 0, _, _, _, _ => none
  | n + 1, l2, t123, o04, kx0_0 =>
    bif (A.lt t123 8) then
      c_12 l2 t123 (fun r5 r6 =>
        bif r6 then
          bif (A.room (A.ilen o04) (A.ilen [(A.add .i64 r5 1)])) then
            impl_MapOf_l0 A c_31 c_12 n l2 (A.add .i64 t123 1) (A.iapp o04 [(A.add .i64 r5 1)]) kx0_0
          else
            none
        else
          bif (A.room (A.ilen o04) (A.ilen [0])) then
            impl_MapOf_l0 A c_31 c_12 n l2 (A.add .i64 t123 1) (A.iapp o04 [0]) kx0_0
          else
            none)
    else
      kx0_0 o04
noncomputable def impl_MapOf_f (A : PM.Prims) (c_31 : impl_SlotsOk_T) (c_12 : impl_SlotGet_T) (l : List Int) (k : (List Int) → PM.R) : PM.R :=
  c_31 l (fun r1 =>
    bif (A.not r1) then
      k []
    else
      impl_MapOf_l0 A c_31 c_12 A.fuel l 0 [] (fun o078 =>
        k o078))
noncomputable def impl_MapOf (A : PM.Prims) : impl_MapOf_T := impl_MapOf_f A (impl_SlotsOk A) (impl_SlotGet A)
noncomputable def impl_MapOf_L (A : PM.Prims) (c_31 : impl_SlotsOk_T) (c_12 : impl_SlotGet_T) (n : Nat) : PM.Lam := fun cur σ K =>
  match cur, σ, K with
  | 0, ⟨[(0, .arr (.ints 3 .i64 l2)), (3, .sref 0), (12, .int .i64 t123)], [(0, .arr true (.ints 3 .i64 o04))]⟩, K => impl_MapOf_l0 A c_31 c_12 n l2 t123 o04 (fun o07 => K (.exit 0) ⟨[(3, .sref 0)], [(0, .arr true (.ints 3 .i64 o07))]⟩)
  | _, _, _ => none
noncomputable def impl_MapOf_E (A : PM.Prims) (c_31 : impl_SlotsOk_T) (c_12 : impl_SlotGet_T) : PM.Env := ⟨[(31, ⟨[], impl_SlotsOk_w c_31, none⟩), (12, ⟨[], impl_SlotGet_w c_12, none⟩)], [], [(0, [0, 3, 12], [2, 3])], [(0, [0]), (1, [0, 10]), (2, [2]), (3, [0, 3]), (4, [0, 3, 12]), (5, [0, 3, 12, 13]), (6, [0, 3, 4, 12]), (7, [0, 3, 4, 5, 12]), (8, [0, 3, 5, 6, 7, 12]), (9, [0, 3, 5, 6, 12, 21]), (10, [0, 3, 5, 12]), (11, [0, 3, 12]), (12, [0, 3, 12]), (13, [2])], impl_MapOf_L A c_31 c_12 A.fuel⟩
theorem impl_MapOf_l0_ok (A : PM.Prims) (c_31 : impl_SlotsOk_T) (c_12 : impl_SlotGet_T) (n : Nat) (l2 : List Int) (t123 : Int) (o04 : List Int) (K : Go.Exit → PM.S → PM.R) : impl_MapOf_L A c_31 c_12 (n + 1) 0 ⟨[(0, .arr (.ints 3 .i64 l2)), (3, .sref 0), (12, .int .i64 t123)], [(0, .arr true (.ints 3 .i64 o04))]⟩ K = PM.roundF A cx (PM.runD A cx (impl_MapOf_E A c_31 c_12).inl (impl_MapOf_E A c_31 c_12).Γ 3) (impl_MapOf_E A c_31 c_12) (impl_MapOf_L A c_31 c_12 n) 0 Go.Proofs.Try.f11 ⟨[(0, .arr (.ints 3 .i64 l2)), (3, .sref 0), (12, .int .i64 t123)], [(0, .arr true (.ints 3 .i64 o04))]⟩ K := by kernel_rfl
theorem impl_MapOf_ok (A : PM.Prims) (c_31 : impl_SlotsOk_T) (c_12 : impl_SlotGet_T) (l : List Int) (k : PM.V → PM.R) : PM.pfun A cx [] (impl_MapOf_E A c_31 c_12) Go.Proofs.Try.f11 [.arr (.ints 3 .i64 l)] k = impl_MapOf_f A c_31 c_12 l (fun r0 => k (.arr (.ints 3 .i64 r0))) := by kernel_rfl

theorem impl_MapOf_fn : PM.FnIs Try.prog 11 Try.f11 := .of Try.func11 (by kernel_rfl) (by kernel_rfl)
theorem impl_MapOf_g : PM.GOk Try.prog cx 11 ⟨[], impl_MapOf_w (impl_MapOf PM.std), none⟩ := by
  refine ⟨impl_MapOf_fn.enter, fun _ ds k r h => ?_, fun hm => absurd rfl hm, fun _ e => (by cases e)⟩
  change impl_MapOf_w (impl_MapOf PM.std) ds k = some r at h
  unfold impl_MapOf_w at h
  split at h
  · exact PM.pfun_ok (E := impl_MapOf_E PM.std (impl_SlotsOk PM.std) (impl_SlotGet PM.std)) (L := fun n => impl_MapOf_L PM.std (impl_SlotsOk PM.std) (impl_SlotGet PM.std) n) (N := PM.std.fuel) cx_ok (.cons impl_SlotsOk_g (.cons impl_SlotGet_g .nil)) mixed .nil impl_MapOf_fn (by kernel_rfl) ⟨rfl, fun cur σ K => by
      dsimp only [impl_MapOf_L]
      split <;> rfl, fun n cur σ K r h => by
      dsimp only [impl_MapOf_L] at h
      split at h
      · exact (impl_MapOf_l0_ok PM.std (impl_SlotsOk PM.std) (impl_SlotGet PM.std) n _ _ _ K).symm.trans h
      · cases h⟩
      ((impl_MapOf_ok PM.std (impl_SlotsOk PM.std) (impl_SlotGet PM.std) _ k).trans h)
  · cases h

abbrev impl_SlotDrop_T := (List Int) → (Int) → ((List Int) → (Int) → (Bool) → PM.R) → PM.R
noncomputable def impl_SlotDrop_w (c : impl_SlotDrop_T) (ds : List PM.V) (k : PM.V → PM.R) : PM.R :=
  match ds with
  | [.arr (.ints 3 .i64 l), .int .i64 key] => c l key (fun r0 r1 r2 => k (.tup [.arr (.ints 3 .i64 r0), .int .i64 r1, .bool r2]))
  | _ => none
noncomputable def impl_SlotDrop_f (A : PM.Prims) (c_30 : impl_copyInts_T) (c_32 : impl_isKey_T) (c_31 : impl_SlotsOk_T) (c_34 : impl_find_T) (c_12 : impl_SlotGet_T) (l : List Int) (key : Int) (k : (List Int) → (Int) → (Bool) → PM.R) : PM.R :=
  c_30 l (fun r1 =>
    c_31 l (fun r2 =>
      bif (A.not r2) then
        k r1 0 false
      else
        c_32 key (fun r3 =>
          bif (A.not r3) then
            k r1 0 false
          else
            c_34 l key (fun r4 =>
              bif (A.lt r4 0) then
                k r1 0 true
              else
                c_12 l key (fun r5 r6 =>
                  bif (A.inb r4 (A.ilen r1)) then
                    k (A.iset r1 r4 0) (A.add .i64 r5 1) true
                  else
                    none)))))
noncomputable def impl_SlotDrop (A : PM.Prims) : impl_SlotDrop_T := impl_SlotDrop_f A (impl_copyInts A) (impl_isKey A) (impl_SlotsOk A) (impl_find A) (impl_SlotGet A)
noncomputable def impl_SlotDrop_L (A : PM.Prims) (c_30 : impl_copyInts_T) (c_32 : impl_isKey_T) (c_31 : impl_SlotsOk_T) (c_34 : impl_find_T) (c_12 : impl_SlotGet_T) (n : Nat) : PM.Lam := fun cur σ K =>
  match cur, σ, K with
  | _, _, _ => none
noncomputable def impl_SlotDrop_E (A : PM.Prims) (c_30 : impl_copyInts_T) (c_32 : impl_isKey_T) (c_31 : impl_SlotsOk_T) (c_34 : impl_find_T) (c_12 : impl_SlotGet_T) : PM.Env := ⟨[(30, ⟨[], impl_copyInts_w c_30, none⟩), (32, ⟨[], impl_isKey_w c_32, none⟩), (31, ⟨[], impl_SlotsOk_w c_31, none⟩), (34, ⟨[], impl_find_w c_34, none⟩), (12, ⟨[], impl_SlotGet_w c_12, none⟩)], [], [], [(0, [0, 1]), (1, [0, 1, 7]), (2, [0, 1, 7, 20]), (3, [4, 5, 6]), (4, [0, 1, 7, 8]), (5, [0, 1, 7, 8, 26]), (6, [4, 5, 6]), (7, [7, 8, 9]), (8, [7, 9]), (9, [4, 5, 6])], impl_SlotDrop_L A c_30 c_32 c_31 c_34 c_12 A.fuel⟩
theorem impl_SlotDrop_ok (A : PM.Prims) (c_30 : impl_copyInts_T) (c_32 : impl_isKey_T) (c_31 : impl_SlotsOk_T) (c_34 : impl_find_T) (c_12 : impl_SlotGet_T) (l : List Int) (key : Int) (k : PM.V → PM.R) : PM.pfun A cx [] (impl_SlotDrop_E A c_30 c_32 c_31 c_34 c_12) Go.Proofs.Try.f13 [.arr (.ints 3 .i64 l), .int .i64 key] k = impl_SlotDrop_f A c_30 c_32 c_31 c_34 c_12 l key (fun r0 r1 r2 => k (.tup [.arr (.ints 3 .i64 r0), .int .i64 r1, .bool r2])) := by kernel_rfl

theorem impl_SlotDrop_fn : PM.FnIs Try.prog 13 Try.f13 := .of Try.func13 (by kernel_rfl) (by kernel_rfl)
theorem impl_SlotDrop_g : PM.GOk Try.prog cx 13 ⟨[], impl_SlotDrop_w (impl_SlotDrop PM.std), none⟩ := by
  refine ⟨impl_SlotDrop_fn.enter, fun _ ds k r h => ?_, fun hm => absurd rfl hm, fun _ e => (by cases e)⟩
  change impl_SlotDrop_w (impl_SlotDrop PM.std) ds k = some r at h
  unfold impl_SlotDrop_w at h
  split at h
  · exact PM.pfun_ok (E := impl_SlotDrop_E PM.std (impl_copyInts PM.std) (impl_isKey PM.std) (impl_SlotsOk PM.std) (impl_find PM.std) (impl_SlotGet PM.std)) (L := fun n => impl_SlotDrop_L PM.std (impl_copyInts PM.std) (impl_isKey PM.std) (impl_SlotsOk PM.std) (impl_find PM.std) (impl_SlotGet PM.std) n) (N := PM.std.fuel) cx_ok (.cons impl_copyInts_g (.cons impl_isKey_g (.cons impl_SlotsOk_g (.cons impl_find_g (.cons impl_SlotGet_g .nil))))) mixed .nil impl_SlotDrop_fn (by kernel_rfl) ⟨rfl, fun _ _ _ => rfl, fun n cur σ K r h => by cases h⟩
      ((impl_SlotDrop_ok PM.std (impl_copyInts PM.std) (impl_isKey PM.std) (impl_SlotsOk PM.std) (impl_find PM.std) (impl_SlotGet PM.std) _ _ k).trans h)
  · cases h

abbrev impl_isMap_T := (List Int) → ((Bool) → PM.R) → PM.R
noncomputable def impl_isMap_w (c : impl_isMap_T) (ds : List PM.V) (k : PM.V → PM.R) : PM.R :=
  match ds with
  | [.arr (.ints 3 .i64 l)] => c l (fun r0 => k (.bool r0))
  | _ => none
noncomputable def impl_isMap_l0 (A : PM.Prims) (c_63 : impl_within_T) : Nat → (List Int) → (List Int) → (Int) → (Int) → ((Bool) → PM.R) → ((List Int) → PM.R) → PM.R
  | 0, _, _, _, _, _, _ => none
  | n + 1, l1, t52, t63, t74, kret_0, kx0_0 =>
    bif (A.lt t74 t63) then
      bif (A.inb t74 (A.ilen t52)) then
        c_63 (A.iget t52 t74) 0 65536 (fun r5 =>
          bif (A.not r5) then
            kret_0 false
          else
            impl_isMap_l0 A c_63 n l1 t52 t63 (A.add .i64 t74 1) kret_0 kx0_0)
      else
        none
    else
      kx0_0 l1
noncomputable def impl_isMap_f (A : PM.Prims) (c_63 : impl_within_T) (l : List Int) (k : (Bool) → PM.R) : PM.R :=
  impl_isMap_l0 A c_63 A.fuel l l (A.ilen l) 0 (fun t268 =>
    k t268) (fun l79 =>
    k (A.eq (A.ilen l79) 8))
noncomputable def impl_isMap (A : PM.Prims) : impl_isMap_T := impl_isMap_f A (impl_within A)
noncomputable def impl_isMap_L (A : PM.Prims) (c_63 : impl_within_T) (n : Nat) : PM.Lam := fun cur σ K =>
  match cur, σ, K with
  | 0, ⟨[(0, .arr (.ints 3 .i64 l1)), (5, .arr (.ints 3 .i64 t52)), (6, .int .i64 t63), (7, .int .i64 t74)], []⟩, K => impl_isMap_l0 A c_63 n l1 t52 t63 t74 (fun t26 => K .ret ⟨[(2, .bool t26)], []⟩) (fun l7 => K (.exit 0) ⟨[(0, .arr (.ints 3 .i64 l7))], []⟩)
  | _, _, _ => none
noncomputable def impl_isMap_E (A : PM.Prims) (c_63 : impl_within_T) : PM.Env := ⟨[(63, ⟨[], impl_within_w c_63, none⟩)], [], [(0, [0, 5, 6, 7], [0, 2])], [(0, [0]), (1, [0, 5, 6, 7]), (2, [0, 5, 6, 7, 8]), (3, [0, 4, 5, 6, 7]), (4, [0, 5, 6, 7, 13]), (5, [2]), (6, [0, 5, 6, 7]), (7, [2])], impl_isMap_L A c_63 A.fuel⟩
theorem impl_isMap_l0_ok (A : PM.Prims) (c_63 : impl_within_T) (n : Nat) (l1 : List Int) (t52 : List Int) (t63 : Int) (t74 : Int) (K : Go.Exit → PM.S → PM.R) : impl_isMap_L A c_63 (n + 1) 0 ⟨[(0, .arr (.ints 3 .i64 l1)), (5, .arr (.ints 3 .i64 t52)), (6, .int .i64 t63), (7, .int .i64 t74)], []⟩ K = PM.roundF A cx (PM.runD A cx (impl_isMap_E A c_63).inl (impl_isMap_E A c_63).Γ 3) (impl_isMap_E A c_63) (impl_isMap_L A c_63 n) 0 Go.Proofs.Try.f39 ⟨[(0, .arr (.ints 3 .i64 l1)), (5, .arr (.ints 3 .i64 t52)), (6, .int .i64 t63), (7, .int .i64 t74)], []⟩ K := by kernel_rfl
theorem impl_isMap_ok (A : PM.Prims) (c_63 : impl_within_T) (l : List Int) (k : PM.V → PM.R) : PM.pfun A cx [] (impl_isMap_E A c_63) Go.Proofs.Try.f39 [.arr (.ints 3 .i64 l)] k = impl_isMap_f A c_63 l (fun r0 => k (.bool r0)) := by kernel_rfl

theorem impl_isMap_fn : PM.FnIs Try.prog 39 Try.f39 := .of Try.func39 (by kernel_rfl) (by kernel_rfl)
theorem impl_isMap_g : PM.GOk Try.prog cx 39 ⟨[], impl_isMap_w (impl_isMap PM.std), none⟩ := by
  refine ⟨impl_isMap_fn.enter, fun _ ds k r h => ?_, fun hm => absurd rfl hm, fun _ e => (by cases e)⟩
  change impl_isMap_w (impl_isMap PM.std) ds k = some r at h
  unfold impl_isMap_w at h
  split at h
  · exact PM.pfun_ok (E := impl_isMap_E PM.std (impl_within PM.std)) (L := fun n => impl_isMap_L PM.std (impl_within PM.std) n) (N := PM.std.fuel) cx_ok (.cons impl_within_g .nil) mixed .nil impl_isMap_fn (by kernel_rfl) ⟨rfl, fun cur σ K => by
      dsimp only [impl_isMap_L]
      split <;> rfl, fun n cur σ K r h => by
      dsimp only [impl_isMap_L] at h
      split at h
      · exact (impl_isMap_l0_ok PM.std (impl_within PM.std) n _ _ _ _ K).symm.trans h
      · cases h⟩
      ((impl_isMap_ok PM.std (impl_within PM.std) _ k).trans h)
  · cases h

abbrev impl_SlotNew_T := ((List Int) → PM.R) → PM.R
noncomputable def impl_SlotNew_w (c : impl_SlotNew_T) (ds : List PM.V) (k : PM.V → PM.R) : PM.R :=
  match ds with
  | [] => c (fun r0 => k (.arr (.ints 3 .i64 r0)))
  | _ => none
noncomputable def impl_SlotNew_f (A : PM.Prims) (k : (List Int) → PM.R) : PM.R :=
  bif (A.mkOk 16) then
    bif (A.le 16 16) then
      bif (A.mkOk 16) then
        k (A.izero 16)
      else
        none
    else
      none
  else
    none
noncomputable def impl_SlotNew (A : PM.Prims) : impl_SlotNew_T := impl_SlotNew_f A
noncomputable def impl_SlotNew_L (A : PM.Prims) (n : Nat) : PM.Lam := fun cur σ K =>
  match cur, σ, K with
  | _, _, _ => none
noncomputable def impl_SlotNew_E (A : PM.Prims) : PM.Env := ⟨[], [], [], [(0, []), (1, [0])], impl_SlotNew_L A A.fuel⟩
theorem impl_SlotNew_ok (A : PM.Prims) (k : PM.V → PM.R) : PM.pfun A cx [] (impl_SlotNew_E A) Go.Proofs.Try.f40 [] k = impl_SlotNew_f A (fun r0 => k (.arr (.ints 3 .i64 r0))) := by kernel_rfl

theorem impl_SlotNew_fn : PM.FnIs Try.prog 40 Try.f40 := .of Try.func40 (by kernel_rfl) (by kernel_rfl)
theorem impl_SlotNew_g : PM.GOk Try.prog cx 40 ⟨[], impl_SlotNew_w (impl_SlotNew PM.std), none⟩ := by
  refine ⟨impl_SlotNew_fn.enter, fun _ ds k r h => ?_, fun hm => absurd rfl hm, fun _ e => (by cases e)⟩
  change impl_SlotNew_w (impl_SlotNew PM.std) ds k = some r at h
  unfold impl_SlotNew_w at h
  split at h
  · exact PM.pfun_ok (E := impl_SlotNew_E PM.std) (L := fun n => impl_SlotNew_L PM.std n) (N := PM.std.fuel) cx_ok .nil mixed .nil impl_SlotNew_fn (by kernel_rfl) ⟨rfl, fun _ _ _ => rfl, fun n cur σ K r h => by cases h⟩
      ((impl_SlotNew_ok PM.std k).trans h)
  · cases h

abbrev impl_SlotsFrom_T := (List Int) → ((List Int) → PM.R) → PM.R
noncomputable def impl_SlotsFrom_w (c : impl_SlotsFrom_T) (ds : List PM.V) (k : PM.V → PM.R) : PM.R :=
  match ds with
  | [.arr (.ints 3 .i64 m)] => c m (fun r0 => k (.arr (.ints 3 .i64 r0)))
  | _ => none
noncomputable def impl_SlotsFrom_l0 (A : PM.Prims) (c_8 : impl_SlotPut_T) (c_39 : impl_isMap_T) (c_40 : impl_SlotNew_T) : Nat → (List Int) → (Int) → (Int) → (List Int) → ((List Int) → PM.R) → PM.R
  | 0, _, _, _, _, _ => none
  | n + 1, t103, t114, t125, o06, kx0_0 =>
    bif (A.lt t125 t114) then
      bif (A.inb t125 (A.ilen t103)) then
        bif (A.lt 0 (A.iget t103 t125)) then
          c_8 o06 t125 (A.sub .i64 (A.iget t103 t125) 1) (fun r7 r8 r9 =>
            impl_SlotsFrom_l0 A c_8 c_39 c_40 n t103 t114 (A.add .i64 t125 1) r7 kx0_0)
        else
          impl_SlotsFrom_l0 A c_8 c_39 c_40 n t103 t114 (A.add .i64 t125 1) o06 kx0_0
      else
        none
    else
      kx0_0 o06
noncomputable def impl_SlotsFrom_f (A : PM.Prims) (c_8 : impl_SlotPut_T) (c_39 : impl_isMap_T) (c_40 : impl_SlotNew_T) (m : List Int) (k : (List Int) → PM.R) : PM.R :=
  c_39 m (fun r1 =>
    bif (A.not r1) then
      k []
    else
      c_40 (fun r2 =>
        impl_SlotsFrom_l0 A c_8 c_39 c_40 A.fuel m (A.ilen m) 0 r2 (fun o01011 =>
          k o01011)))
noncomputable def impl_SlotsFrom (A : PM.Prims) : impl_SlotsFrom_T := impl_SlotsFrom_f A (impl_SlotPut A) (impl_isMap A) (impl_SlotNew A)
noncomputable def impl_SlotsFrom_L (A : PM.Prims) (c_8 : impl_SlotPut_T) (c_39 : impl_isMap_T) (c_40 : impl_SlotNew_T) (n : Nat) : PM.Lam := fun cur σ K =>
  match cur, σ, K with
  | 0, ⟨[(3, .sref 0), (10, .arr (.ints 3 .i64 t103)), (11, .int .i64 t114), (12, .int .i64 t125)], [(0, .arr true (.ints 3 .i64 o06))]⟩, K => impl_SlotsFrom_l0 A c_8 c_39 c_40 n t103 t114 t125 o06 (fun o010 => K (.exit 0) ⟨[(3, .sref 0)], [(0, .arr true (.ints 3 .i64 o010))]⟩)
  | _, _, _ => none
noncomputable def impl_SlotsFrom_E (A : PM.Prims) (c_8 : impl_SlotPut_T) (c_39 : impl_isMap_T) (c_40 : impl_SlotNew_T) : PM.Env := ⟨[(8, ⟨[], impl_SlotPut_w c_8, none⟩), (39, ⟨[], impl_isMap_w c_39, none⟩), (40, ⟨[], impl_SlotNew_w c_40, none⟩)], [], [(0, [3, 10, 11, 12], [2, 3])], [(0, [0]), (1, [0, 8]), (2, [2]), (3, [0, 3]), (4, [3, 10, 11, 12]), (5, [3, 10, 11, 12, 13]), (6, [3, 4, 5, 10, 11, 12]), (7, [3, 4, 5, 10, 11, 12, 18]), (8, [3, 10, 11, 12]), (9, [3, 10, 11, 12]), (10, [2])], impl_SlotsFrom_L A c_8 c_39 c_40 A.fuel⟩
theorem impl_SlotsFrom_l0_ok (A : PM.Prims) (c_8 : impl_SlotPut_T) (c_39 : impl_isMap_T) (c_40 : impl_SlotNew_T) (n : Nat) (t103 : List Int) (t114 : Int) (t125 : Int) (o06 : List Int) (K : Go.Exit → PM.S → PM.R) : impl_SlotsFrom_L A c_8 c_39 c_40 (n + 1) 0 ⟨[(3, .sref 0), (10, .arr (.ints 3 .i64 t103)), (11, .int .i64 t114), (12, .int .i64 t125)], [(0, .arr true (.ints 3 .i64 o06))]⟩ K = PM.roundF A cx (PM.runD A cx (impl_SlotsFrom_E A c_8 c_39 c_40).inl (impl_SlotsFrom_E A c_8 c_39 c_40).Γ 3) (impl_SlotsFrom_E A c_8 c_39 c_40) (impl_SlotsFrom_L A c_8 c_39 c_40 n) 0 Go.Proofs.Try.f14 ⟨[(3, .sref 0), (10, .arr (.ints 3 .i64 t103)), (11, .int .i64 t114), (12, .int .i64 t125)], [(0, .arr true (.ints 3 .i64 o06))]⟩ K := by kernel_rfl
theorem impl_SlotsFrom_ok (A : PM.Prims) (c_8 : impl_SlotPut_T) (c_39 : impl_isMap_T) (c_40 : impl_SlotNew_T) (m : List Int) (k : PM.V → PM.R) : PM.pfun A cx [] (impl_SlotsFrom_E A c_8 c_39 c_40) Go.Proofs.Try.f14 [.arr (.ints 3 .i64 m)] k = impl_SlotsFrom_f A c_8 c_39 c_40 m (fun r0 => k (.arr (.ints 3 .i64 r0))) := by kernel_rfl

theorem impl_SlotsFrom_fn : PM.FnIs Try.prog 14 Try.f14 := .of Try.func14 (by kernel_rfl) (by kernel_rfl)
theorem impl_SlotsFrom_g : PM.GOk Try.prog cx 14 ⟨[], impl_SlotsFrom_w (impl_SlotsFrom PM.std), none⟩ := by
  refine ⟨impl_SlotsFrom_fn.enter, fun _ ds k r h => ?_, fun hm => absurd rfl hm, fun _ e => (by cases e)⟩
  change impl_SlotsFrom_w (impl_SlotsFrom PM.std) ds k = some r at h
  unfold impl_SlotsFrom_w at h
  split at h
  · exact PM.pfun_ok (E := impl_SlotsFrom_E PM.std (impl_SlotPut PM.std) (impl_isMap PM.std) (impl_SlotNew PM.std)) (L := fun n => impl_SlotsFrom_L PM.std (impl_SlotPut PM.std) (impl_isMap PM.std) (impl_SlotNew PM.std) n) (N := PM.std.fuel) cx_ok (.cons impl_SlotPut_g (.cons impl_isMap_g (.cons impl_SlotNew_g .nil))) mixed .nil impl_SlotsFrom_fn (by kernel_rfl) ⟨rfl, fun cur σ K => by
      dsimp only [impl_SlotsFrom_L]
      split <;> rfl, fun n cur σ K r h => by
      dsimp only [impl_SlotsFrom_L] at h
      split at h
      · exact (impl_SlotsFrom_l0_ok PM.std (impl_SlotPut PM.std) (impl_isMap PM.std) (impl_SlotNew PM.std) n _ _ _ _ K).symm.trans h
      · cases h⟩
      ((impl_SlotsFrom_ok PM.std (impl_SlotPut PM.std) (impl_isMap PM.std) (impl_SlotNew PM.std) _ k).trans h)
  · cases h

abbrev laws_FnSlots_T := (List Int) → ((Bool) → PM.R) → PM.R
noncomputable def laws_FnSlots_w (c : laws_FnSlots_T) (ds : List PM.V) (k : PM.V → PM.R) : PM.R :=
  match ds with
  | [.arr (.ints 5 .u8 __)] => c __ (fun r0 => k (.bool r0))
  | _ => none
noncomputable def laws_FnSlots_l0 (A : PM.Prims) (c_6 : laws_big_T) (c_9 : spec_SlotsOk_T) (c_7 : spec_DrawSlotPut_T) (c_15 : impl_BucketOf_T) (c_12 : impl_SlotGet_T) (c_8 : impl_SlotPut_T) (c_10 : laws_sameInts_T) (c_11 : impl_MapOf_T) (c_13 : impl_SlotDrop_T) (c_14 : impl_SlotsFrom_T) : Nat → (Int) → (Int) → (List Int) → (List Int) → (List Int) → (List Int) → (List Int) → (Int) → ((Bool) → PM.R) → ((Int) → (Int) → (List Int) → (List Int) → (List Int) → (List Int) → PM.R) → PM.R
  | 0, _, _, _, _, _, _, _, _, _, _ => none
  | n + 1, k18, v19, x20, m21, n22, y23, o24, i25, kret_0, kx0_0 =>
    bif (A.lt i25 8) then
      bif (A.not (A.eq i25 k18)) then
        bif (A.inb i25 (A.ilen n22)) then
          bif (A.inb i25 (A.ilen m21)) then
            bif (A.not (A.eq (A.iget n22 i25) (A.iget m21 i25))) then
              kret_0 false
            else
              bif (A.inb i25 (A.ilen o24)) then
                bif (A.inb i25 (A.ilen m21)) then
                  bif (A.not (A.eq (A.iget o24 i25) (A.iget m21 i25))) then
                    kret_0 false
                  else
                    laws_FnSlots_l0 A c_6 c_9 c_7 c_15 c_12 c_8 c_10 c_11 c_13 c_14 n k18 v19 x20 m21 n22 y23 o24 (A.add .i64 i25 1) kret_0 kx0_0
                else
                  none
              else
                none
          else
            none
        else
          none
      else
        laws_FnSlots_l0 A c_6 c_9 c_7 c_15 c_12 c_8 c_10 c_11 c_13 c_14 n k18 v19 x20 m21 n22 y23 o24 (A.add .i64 i25 1) kret_0 kx0_0
    else
      kx0_0 k18 v19 x20 n22 y23 o24
noncomputable def laws_FnSlots_f (A : PM.Prims) (c_6 : laws_big_T) (c_9 : spec_SlotsOk_T) (c_7 : spec_DrawSlotPut_T) (c_15 : impl_BucketOf_T) (c_12 : impl_SlotGet_T) (c_8 : impl_SlotPut_T) (c_10 : laws_sameInts_T) (c_11 : impl_MapOf_T) (c_13 : impl_SlotDrop_T) (c_14 : impl_SlotsFrom_T) (__ : List Int) (k : (Bool) → PM.R) : PM.R :=
  c_6 __ (fun r1 =>
    bif r1 then
      k true
    else
      c_7 __ (fun r2 r3 r4 =>
        c_8 r2 r3 r4 (fun r5 r6 r7 =>
          c_9 r2 (fun r8 =>
            bif r8 then
              bif (A.le 0 r3) then
                bif (A.lt r3 8) then
                  bif (A.le 0 r4) then
                    bif (A.not (A.beq r7 (A.lt r4 65536))) then
                      k false
                    else
                      bif (A.not r7) then
                        c_10 r5 r2 (fun r9 =>
                          bif r9 then
                            k (A.eq r6 0)
                          else
                            k false)
                      else
                        c_11 r2 (fun r10 =>
                          c_11 r5 (fun r11 =>
                            c_12 r5 r3 (fun r12 r13 =>
                              c_13 r5 r3 (fun r14 r15 r16 =>
                                c_11 r14 (fun r17 =>
                                  bif (A.not (A.eq (A.ilen r10) 8)) then
                                    k false
                                  else
                                    bif (A.not (A.eq (A.ilen r11) 8)) then
                                      k false
                                    else
                                      bif (A.not (A.eq (A.ilen r17) 8)) then
                                        k false
                                      else
                                        bif (A.inb r3 (A.ilen r10)) then
                                          bif (A.not (A.eq r6 (A.iget r10 r3))) then
                                            k false
                                          else
                                            bif (A.not r13) then
                                              k false
                                            else
                                              bif (A.not (A.eq r12 r4)) then
                                                k false
                                              else
                                                bif (A.not r16) then
                                                  k false
                                                else
                                                  bif (A.not (A.eq r15 (A.add .i64 1 r4))) then
                                                    k false
                                                  else
                                                    laws_FnSlots_l0 A c_6 c_9 c_7 c_15 c_12 c_8 c_10 c_11 c_13 c_14 A.fuel r3 r4 r5 r10 r11 r14 r17 0 (fun t22633 =>
                                                      k t22633) (fun k2734 v2835 x2936 n3037 y3138 o3239 =>
                                                      bif (A.inb k2734 (A.ilen n3037)) then
                                                        bif (A.eq (A.iget n3037 k2734) (A.add .i64 v2835 1)) then
                                                          bif (A.inb k2734 (A.ilen o3239)) then
                                                            bif (A.eq (A.iget o3239 k2734) 0) then
                                                              c_9 x2936 (fun r40 =>
                                                                bif r40 then
                                                                  c_9 y3138 (fun r41 =>
                                                                    bif r41 then
                                                                      c_14 n3037 (fun r42 =>
                                                                        c_11 r42 (fun r43 =>
                                                                          c_10 r43 n3037 (fun r44 =>
                                                                            bif r44 then
                                                                              c_15 k2734 (fun r45 =>
                                                                                bif (A.le 0 r45) then
                                                                                  c_15 k2734 (fun r46 =>
                                                                                    k (A.lt r46 4))
                                                                                else
                                                                                  k false)
                                                                            else
                                                                              k false)))
                                                                    else
                                                                      k false)
                                                                else
                                                                  k false)
                                                            else
                                                              k false
                                                          else
                                                            none
                                                        else
                                                          k false
                                                      else
                                                        none)
                                        else
                                          none)))))
                  else
                    bif (A.not (A.beq r7 false)) then
                      k false
                    else
                      bif (A.not r7) then
                        c_10 r5 r2 (fun r47 =>
                          bif r47 then
                            k (A.eq r6 0)
                          else
                            k false)
                      else
                        c_11 r2 (fun r48 =>
                          c_11 r5 (fun r49 =>
                            c_12 r5 r3 (fun r50 r51 =>
                              c_13 r5 r3 (fun r52 r53 r54 =>
                                c_11 r52 (fun r55 =>
                                  bif (A.not (A.eq (A.ilen r48) 8)) then
                                    k false
                                  else
                                    bif (A.not (A.eq (A.ilen r49) 8)) then
                                      k false
                                    else
                                      bif (A.not (A.eq (A.ilen r55) 8)) then
                                        k false
                                      else
                                        bif (A.inb r3 (A.ilen r48)) then
                                          bif (A.not (A.eq r6 (A.iget r48 r3))) then
                                            k false
                                          else
                                            bif (A.not r51) then
                                              k false
                                            else
                                              bif (A.not (A.eq r50 r4)) then
                                                k false
                                              else
                                                bif (A.not r54) then
                                                  k false
                                                else
                                                  bif (A.not (A.eq r53 (A.add .i64 1 r4))) then
                                                    k false
                                                  else
                                                    laws_FnSlots_l0 A c_6 c_9 c_7 c_15 c_12 c_8 c_10 c_11 c_13 c_14 A.fuel r3 r4 r5 r48 r49 r52 r55 0 (fun t22664 =>
                                                      k t22664) (fun k2765 v2866 x2967 n3068 y3169 o3270 =>
                                                      bif (A.inb k2765 (A.ilen n3068)) then
                                                        bif (A.eq (A.iget n3068 k2765) (A.add .i64 v2866 1)) then
                                                          bif (A.inb k2765 (A.ilen o3270)) then
                                                            bif (A.eq (A.iget o3270 k2765) 0) then
                                                              c_9 x2967 (fun r71 =>
                                                                bif r71 then
                                                                  c_9 y3169 (fun r72 =>
                                                                    bif r72 then
                                                                      c_14 n3068 (fun r73 =>
                                                                        c_11 r73 (fun r74 =>
                                                                          c_10 r74 n3068 (fun r75 =>
                                                                            bif r75 then
                                                                              c_15 k2765 (fun r76 =>
                                                                                bif (A.le 0 r76) then
                                                                                  c_15 k2765 (fun r77 =>
                                                                                    k (A.lt r77 4))
                                                                                else
                                                                                  k false)
                                                                            else
                                                                              k false)))
                                                                    else
                                                                      k false)
                                                                else
                                                                  k false)
                                                            else
                                                              k false
                                                          else
                                                            none
                                                        else
                                                          k false
                                                      else
                                                        none)
                                        else
                                          none)))))
                else
                  bif (A.not (A.beq r7 false)) then
                    k false
                  else
                    bif (A.not r7) then
                      c_10 r5 r2 (fun r78 =>
                        bif r78 then
                          k (A.eq r6 0)
                        else
                          k false)
                    else
                      c_11 r2 (fun r79 =>
                        c_11 r5 (fun r80 =>
                          c_12 r5 r3 (fun r81 r82 =>
                            c_13 r5 r3 (fun r83 r84 r85 =>
                              c_11 r83 (fun r86 =>
                                bif (A.not (A.eq (A.ilen r79) 8)) then
                                  k false
                                else
                                  bif (A.not (A.eq (A.ilen r80) 8)) then
                                    k false
                                  else
                                    bif (A.not (A.eq (A.ilen r86) 8)) then
                                      k false
                                    else
                                      bif (A.inb r3 (A.ilen r79)) then
                                        bif (A.not (A.eq r6 (A.iget r79 r3))) then
                                          k false
                                        else
                                          bif (A.not r82) then
                                            k false
                                          else
                                            bif (A.not (A.eq r81 r4)) then
                                              k false
                                            else
                                              bif (A.not r85) then
                                                k false
                                              else
                                                bif (A.not (A.eq r84 (A.add .i64 1 r4))) then
                                                  k false
                                                else
                                                  laws_FnSlots_l0 A c_6 c_9 c_7 c_15 c_12 c_8 c_10 c_11 c_13 c_14 A.fuel r3 r4 r5 r79 r80 r83 r86 0 (fun t22695 =>
                                                    k t22695) (fun k2796 v2897 x2998 n3099 y31100 o32101 =>
                                                    bif (A.inb k2796 (A.ilen n3099)) then
                                                      bif (A.eq (A.iget n3099 k2796) (A.add .i64 v2897 1)) then
                                                        bif (A.inb k2796 (A.ilen o32101)) then
                                                          bif (A.eq (A.iget o32101 k2796) 0) then
                                                            c_9 x2998 (fun r102 =>
                                                              bif r102 then
                                                                c_9 y31100 (fun r103 =>
                                                                  bif r103 then
                                                                    c_14 n3099 (fun r104 =>
                                                                      c_11 r104 (fun r105 =>
                                                                        c_10 r105 n3099 (fun r106 =>
                                                                          bif r106 then
                                                                            c_15 k2796 (fun r107 =>
                                                                              bif (A.le 0 r107) then
                                                                                c_15 k2796 (fun r108 =>
                                                                                  k (A.lt r108 4))
                                                                              else
                                                                                k false)
                                                                          else
                                                                            k false)))
                                                                  else
                                                                    k false)
                                                              else
                                                                k false)
                                                          else
                                                            k false
                                                        else
                                                          none
                                                      else
                                                        k false
                                                    else
                                                      none)
                                      else
                                        none)))))
              else
                bif (A.not (A.beq r7 false)) then
                  k false
                else
                  bif (A.not r7) then
                    c_10 r5 r2 (fun r109 =>
                      bif r109 then
                        k (A.eq r6 0)
                      else
                        k false)
                  else
                    c_11 r2 (fun r110 =>
                      c_11 r5 (fun r111 =>
                        c_12 r5 r3 (fun r112 r113 =>
                          c_13 r5 r3 (fun r114 r115 r116 =>
                            c_11 r114 (fun r117 =>
                              bif (A.not (A.eq (A.ilen r110) 8)) then
                                k false
                              else
                                bif (A.not (A.eq (A.ilen r111) 8)) then
                                  k false
                                else
                                  bif (A.not (A.eq (A.ilen r117) 8)) then
                                    k false
                                  else
                                    bif (A.inb r3 (A.ilen r110)) then
                                      bif (A.not (A.eq r6 (A.iget r110 r3))) then
                                        k false
                                      else
                                        bif (A.not r113) then
                                          k false
                                        else
                                          bif (A.not (A.eq r112 r4)) then
                                            k false
                                          else
                                            bif (A.not r116) then
                                              k false
                                            else
                                              bif (A.not (A.eq r115 (A.add .i64 1 r4))) then
                                                k false
                                              else
                                                laws_FnSlots_l0 A c_6 c_9 c_7 c_15 c_12 c_8 c_10 c_11 c_13 c_14 A.fuel r3 r4 r5 r110 r111 r114 r117 0 (fun t226126 =>
                                                  k t226126) (fun k27127 v28128 x29129 n30130 y31131 o32132 =>
                                                  bif (A.inb k27127 (A.ilen n30130)) then
                                                    bif (A.eq (A.iget n30130 k27127) (A.add .i64 v28128 1)) then
                                                      bif (A.inb k27127 (A.ilen o32132)) then
                                                        bif (A.eq (A.iget o32132 k27127) 0) then
                                                          c_9 x29129 (fun r133 =>
                                                            bif r133 then
                                                              c_9 y31131 (fun r134 =>
                                                                bif r134 then
                                                                  c_14 n30130 (fun r135 =>
                                                                    c_11 r135 (fun r136 =>
                                                                      c_10 r136 n30130 (fun r137 =>
                                                                        bif r137 then
                                                                          c_15 k27127 (fun r138 =>
                                                                            bif (A.le 0 r138) then
                                                                              c_15 k27127 (fun r139 =>
                                                                                k (A.lt r139 4))
                                                                            else
                                                                              k false)
                                                                        else
                                                                          k false)))
                                                                else
                                                                  k false)
                                                            else
                                                              k false)
                                                        else
                                                          k false
                                                      else
                                                        none
                                                    else
                                                      k false
                                                  else
                                                    none)
                                    else
                                      none)))))
            else
              bif (A.not (A.beq r7 false)) then
                k false
              else
                bif (A.not r7) then
                  c_10 r5 r2 (fun r140 =>
                    bif r140 then
                      k (A.eq r6 0)
                    else
                      k false)
                else
                  c_11 r2 (fun r141 =>
                    c_11 r5 (fun r142 =>
                      c_12 r5 r3 (fun r143 r144 =>
                        c_13 r5 r3 (fun r145 r146 r147 =>
                          c_11 r145 (fun r148 =>
                            bif (A.not (A.eq (A.ilen r141) 8)) then
                              k false
                            else
                              bif (A.not (A.eq (A.ilen r142) 8)) then
                                k false
                              else
                                bif (A.not (A.eq (A.ilen r148) 8)) then
                                  k false
                                else
                                  bif (A.inb r3 (A.ilen r141)) then
                                    bif (A.not (A.eq r6 (A.iget r141 r3))) then
                                      k false
                                    else
                                      bif (A.not r144) then
                                        k false
                                      else
                                        bif (A.not (A.eq r143 r4)) then
                                          k false
                                        else
                                          bif (A.not r147) then
                                            k false
                                          else
                                            bif (A.not (A.eq r146 (A.add .i64 1 r4))) then
                                              k false
                                            else
                                              laws_FnSlots_l0 A c_6 c_9 c_7 c_15 c_12 c_8 c_10 c_11 c_13 c_14 A.fuel r3 r4 r5 r141 r142 r145 r148 0 (fun t226157 =>
                                                k t226157) (fun k27158 v28159 x29160 n30161 y31162 o32163 =>
                                                bif (A.inb k27158 (A.ilen n30161)) then
                                                  bif (A.eq (A.iget n30161 k27158) (A.add .i64 v28159 1)) then
                                                    bif (A.inb k27158 (A.ilen o32163)) then
                                                      bif (A.eq (A.iget o32163 k27158) 0) then
                                                        c_9 x29160 (fun r164 =>
                                                          bif r164 then
                                                            c_9 y31162 (fun r165 =>
                                                              bif r165 then
                                                                c_14 n30161 (fun r166 =>
                                                                  c_11 r166 (fun r167 =>
                                                                    c_10 r167 n30161 (fun r168 =>
                                                                      bif r168 then
                                                                        c_15 k27158 (fun r169 =>
                                                                          bif (A.le 0 r169) then
                                                                            c_15 k27158 (fun r170 =>
                                                                              k (A.lt r170 4))
                                                                          else
                                                                            k false)
                                                                      else
                                                                        k false)))
                                                              else
                                                                k false)
                                                          else
                                                            k false)
                                                      else
                                                        k false
                                                    else
                                                      none
                                                  else
                                                    k false
                                                else
                                                  none)
                                  else
                                    none)))))))))
noncomputable def laws_FnSlots (A : PM.Prims) : laws_FnSlots_T := laws_FnSlots_f A (laws_big A) (spec_SlotsOk A) (spec_DrawSlotPut A) (impl_BucketOf A) (impl_SlotGet A) (impl_SlotPut A) (laws_sameInts A) (impl_MapOf A) (impl_SlotDrop A) (impl_SlotsFrom A)
noncomputable def laws_FnSlots_L (A : PM.Prims) (c_6 : laws_big_T) (c_9 : spec_SlotsOk_T) (c_7 : spec_DrawSlotPut_T) (c_15 : impl_BucketOf_T) (c_12 : impl_SlotGet_T) (c_8 : impl_SlotPut_T) (c_10 : laws_sameInts_T) (c_11 : impl_MapOf_T) (c_13 : impl_SlotDrop_T) (c_14 : impl_SlotsFrom_T) (n : Nat) : PM.Lam := fun cur σ K =>
  match cur, σ, K with
  | 0, ⟨[(4, .int .i64 k18), (5, .int .i64 v19), (6, .arr (.ints 3 .i64 x20)), (9, .arr (.ints 3 .i64 m21)), (10, .arr (.ints 3 .i64 n22)), (13, .arr (.ints 3 .i64 y23)), (16, .arr (.ints 3 .i64 o24)), (17, .int .i64 i25)], []⟩, K => laws_FnSlots_l0 A c_6 c_9 c_7 c_15 c_12 c_8 c_10 c_11 c_13 c_14 n k18 v19 x20 m21 n22 y23 o24 i25 (fun t226 => K .ret ⟨[(2, .bool t226)], []⟩) (fun k27 v28 x29 n30 y31 o32 => K (.exit 0) ⟨[(4, .int .i64 k27), (5, .int .i64 v28), (6, .arr (.ints 3 .i64 x29)), (10, .arr (.ints 3 .i64 n30)), (13, .arr (.ints 3 .i64 y31)), (16, .arr (.ints 3 .i64 o32))], []⟩)
  | _, _, _ => none
noncomputable def laws_FnSlots_E (A : PM.Prims) (c_6 : laws_big_T) (c_9 : spec_SlotsOk_T) (c_7 : spec_DrawSlotPut_T) (c_15 : impl_BucketOf_T) (c_12 : impl_SlotGet_T) (c_8 : impl_SlotPut_T) (c_10 : laws_sameInts_T) (c_11 : impl_MapOf_T) (c_13 : impl_SlotDrop_T) (c_14 : impl_SlotsFrom_T) : PM.Env := ⟨[(6, ⟨[], fun _ _ => none, some (PM.spImm (laws_big_w c_6))⟩), (9, ⟨[], fun _ _ => none, some (PM.spImm (spec_SlotsOk_w c_9))⟩), (7, ⟨[], fun _ _ => none, some (PM.spImm (spec_DrawSlotPut_w c_7))⟩), (15, ⟨[], fun _ _ => none, some (PM.spImm (impl_BucketOf_w c_15))⟩), (12, ⟨[], fun _ _ => none, some (PM.spImm (impl_SlotGet_w c_12))⟩), (8, ⟨[], fun _ _ => none, some (PM.spImm (impl_SlotPut_w c_8))⟩), (10, ⟨[], fun _ _ => none, some (PM.spImm (laws_sameInts_w c_10))⟩), (11, ⟨[], fun _ _ => none, some (PM.spImm (impl_MapOf_w c_11))⟩), (13, ⟨[], fun _ _ => none, some (PM.spImm (impl_SlotDrop_w c_13))⟩), (14, ⟨[], fun _ _ => none, some (PM.spImm (impl_SlotsFrom_w c_14))⟩)], [], [(0, [4, 5, 6, 9, 10, 13, 16, 17], [2, 4, 5, 6, 10, 13, 16])], [(0, [0]), (1, [0, 19]), (2, [2]), (3, [3, 4, 5]), (4, [3, 4, 5, 6, 7, 8]), (5, [3, 4, 5, 6, 7, 8, 53]), (6, [2]), (7, [3, 4, 5, 6, 7, 55]), (8, [2]), (9, [4, 5, 6, 7, 9]), (10, [4, 5, 6, 7, 9, 10]), (11, [4, 5, 6, 7, 9, 10, 11, 12]), (12, [4, 5, 6, 7, 9, 10, 11, 12, 13, 14, 15]), (13, [4, 5, 6, 7, 9, 10, 11, 12, 13, 14, 15, 16]), (14, [4, 5, 6, 9, 10, 13, 16, 121]), (15, [2]), (16, [4, 5, 6, 9, 10, 13, 16, 17]), (17, [4, 5, 6, 9, 10, 13, 16, 17, 123]), (18, [4, 5, 6, 9, 10, 13, 16, 17]), (19, [4, 5, 6, 9, 10, 13, 16, 17, 150]), (20, [2]), (21, [2])], laws_FnSlots_L A c_6 c_9 c_7 c_15 c_12 c_8 c_10 c_11 c_13 c_14 A.fuel⟩
theorem laws_FnSlots_l0_ok (A : PM.Prims) (c_6 : laws_big_T) (c_9 : spec_SlotsOk_T) (c_7 : spec_DrawSlotPut_T) (c_15 : impl_BucketOf_T) (c_12 : impl_SlotGet_T) (c_8 : impl_SlotPut_T) (c_10 : laws_sameInts_T) (c_11 : impl_MapOf_T) (c_13 : impl_SlotDrop_T) (c_14 : impl_SlotsFrom_T) (n : Nat) (k18 : Int) (v19 : Int) (x20 : List Int) (m21 : List Int) (n22 : List Int) (y23 : List Int) (o24 : List Int) (i25 : Int) (K : Go.Exit → PM.S → PM.R) : laws_FnSlots_L A c_6 c_9 c_7 c_15 c_12 c_8 c_10 c_11 c_13 c_14 (n + 1) 0 ⟨[(4, .int .i64 k18), (5, .int .i64 v19), (6, .arr (.ints 3 .i64 x20)), (9, .arr (.ints 3 .i64 m21)), (10, .arr (.ints 3 .i64 n22)), (13, .arr (.ints 3 .i64 y23)), (16, .arr (.ints 3 .i64 o24)), (17, .int .i64 i25)], []⟩ K = PM.roundF A cx (PM.runD A cx (laws_FnSlots_E A c_6 c_9 c_7 c_15 c_12 c_8 c_10 c_11 c_13 c_14).inl (laws_FnSlots_E A c_6 c_9 c_7 c_15 c_12 c_8 c_10 c_11 c_13 c_14).Γ 3) (laws_FnSlots_E A c_6 c_9 c_7 c_15 c_12 c_8 c_10 c_11 c_13 c_14) (laws_FnSlots_L A c_6 c_9 c_7 c_15 c_12 c_8 c_10 c_11 c_13 c_14 n) 0 Go.Proofs.Try.f3 ⟨[(4, .int .i64 k18), (5, .int .i64 v19), (6, .arr (.ints 3 .i64 x20)), (9, .arr (.ints 3 .i64 m21)), (10, .arr (.ints 3 .i64 n22)), (13, .arr (.ints 3 .i64 y23)), (16, .arr (.ints 3 .i64 o24)), (17, .int .i64 i25)], []⟩ K := by kernel_rfl
theorem laws_FnSlots_ok (A : PM.Prims) (c_6 : laws_big_T) (c_9 : spec_SlotsOk_T) (c_7 : spec_DrawSlotPut_T) (c_15 : impl_BucketOf_T) (c_12 : impl_SlotGet_T) (c_8 : impl_SlotPut_T) (c_10 : laws_sameInts_T) (c_11 : impl_MapOf_T) (c_13 : impl_SlotDrop_T) (c_14 : impl_SlotsFrom_T) (__ : List Int) (k : PM.V → PM.R) : PM.pfun A cx [] (laws_FnSlots_E A c_6 c_9 c_7 c_15 c_12 c_8 c_10 c_11 c_13 c_14) Go.Proofs.Try.f3 [.arr (.ints 5 .u8 __)] k = laws_FnSlots_f A c_6 c_9 c_7 c_15 c_12 c_8 c_10 c_11 c_13 c_14 __ (fun r0 => k (.bool r0)) := by kernel_rfl

theorem laws_FnSlots_fn : PM.FnIs Try.prog 3 Try.f3 := .of Try.func3 (by kernel_rfl) (by kernel_rfl)
theorem laws_FnSlots_g : PM.GOk Try.prog cx 3 ⟨[], laws_FnSlots_w (laws_FnSlots PM.std), none⟩ := by
  refine ⟨laws_FnSlots_fn.enter, fun _ ds k r h => ?_, fun hm => absurd rfl hm, fun _ e => (by cases e)⟩
  change laws_FnSlots_w (laws_FnSlots PM.std) ds k = some r at h
  unfold laws_FnSlots_w at h
  split at h
  · exact PM.pfun_ok (E := laws_FnSlots_E PM.std (laws_big PM.std) (spec_SlotsOk PM.std) (spec_DrawSlotPut PM.std) (impl_BucketOf PM.std) (impl_SlotGet PM.std) (impl_SlotPut PM.std) (laws_sameInts PM.std) (impl_MapOf PM.std) (impl_SlotDrop PM.std) (impl_SlotsFrom PM.std)) (L := fun n => laws_FnSlots_L PM.std (laws_big PM.std) (spec_SlotsOk PM.std) (spec_DrawSlotPut PM.std) (impl_BucketOf PM.std) (impl_SlotGet PM.std) (impl_SlotPut PM.std) (laws_sameInts PM.std) (impl_MapOf PM.std) (impl_SlotDrop PM.std) (impl_SlotsFrom PM.std) n) (N := PM.std.fuel) cx_ok (.cons (PM.GOk.imm laws_big_g) (.cons (PM.GOk.imm spec_SlotsOk_g) (.cons (PM.GOk.imm spec_DrawSlotPut_g) (.cons (PM.GOk.imm impl_BucketOf_g) (.cons (PM.GOk.imm impl_SlotGet_g) (.cons (PM.GOk.imm impl_SlotPut_g) (.cons (PM.GOk.imm laws_sameInts_g) (.cons (PM.GOk.imm impl_MapOf_g) (.cons (PM.GOk.imm impl_SlotDrop_g) (.cons (PM.GOk.imm impl_SlotsFrom_g) .nil)))))))))) mixed .nil laws_FnSlots_fn (by kernel_rfl) ⟨rfl, fun cur σ K => by
      dsimp only [laws_FnSlots_L]
      split <;> rfl, fun n cur σ K r h => by
      dsimp only [laws_FnSlots_L] at h
      split at h
      · exact (laws_FnSlots_l0_ok PM.std (laws_big PM.std) (spec_SlotsOk PM.std) (spec_DrawSlotPut PM.std) (impl_BucketOf PM.std) (impl_SlotGet PM.std) (impl_SlotPut PM.std) (laws_sameInts PM.std) (impl_MapOf PM.std) (impl_SlotDrop PM.std) (impl_SlotsFrom PM.std) n _ _ _ _ _ _ _ _ K).symm.trans h
      · cases h⟩
      ((laws_FnSlots_ok PM.std (laws_big PM.std) (spec_SlotsOk PM.std) (spec_DrawSlotPut PM.std) (impl_BucketOf PM.std) (impl_SlotGet PM.std) (impl_SlotPut PM.std) (laws_sameInts PM.std) (impl_MapOf PM.std) (impl_SlotDrop PM.std) (impl_SlotsFrom PM.std) _ k).trans h)
  · cases h

end X
