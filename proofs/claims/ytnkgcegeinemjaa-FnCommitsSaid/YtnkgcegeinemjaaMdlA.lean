/- Models of the functions, or plain laws about them; each theorem states its own conditions. -/
import Derived.Test.YtnkgcegeinemjaaL3
import Derived.Test.YtnkgcegeinemjaaW1
import Derived.Test.YtnkgcegeinemjaaProg
import Derived.KernelRfl
set_option linter.unusedVariables false
set_option linter.unusedSimpArgs false
open Go.Proofs
namespace X
open PM
set_option maxRecDepth 100000
set_option maxHeartbeats 4000000
noncomputable def cx : PM.Cx := [
  (2, ⟨1, false, [.int .i64 0], none, 0, none, [], [], [], [.int .i64], false⟩),
  (3, ⟨1, false, [.int .i64 0], none, 0, none, [], [], [], [.int .i64], false⟩),
  (4, ⟨1, false, [.bool false], none, 0, none, [], [], [], [.bool], false⟩),
  (5, ⟨1, false, [.int .u8 0], none, 0, none, [], [], [], [.int .u8], false⟩),
  (6, ⟨1, false, [.int .u8 0], none, 0, none, [], [], [], [.int .u8], false⟩),
  (7, ⟨4, true, [.int .i64 0, .int .i64 0, .bool false, .int .u8 0], none, 0, none, [0, 1, 2, 3], [1, 1, 1, 1], [2, 3, 4, 6], [.int .i64, .int .i64, .bool, .int .u8], true⟩),
  (8, ⟨4, true, [.int .i64 0, .int .i64 0, .bool false, .int .u8 0], none, 0, none, [0, 1, 2, 3], [1, 1, 1, 1], [2, 3, 4, 6], [.int .i64, .int .i64, .bool, .int .u8], true⟩),
  (12, ⟨1, false, [.int .u64 0], none, 0, none, [], [], [], [.int .u64], false⟩),
  (21, ⟨1, false, [.int .i32 0], none, 0, none, [], [], [], [.int .i32], false⟩),
  (22, ⟨4, true, [.int .i64 0, .int .i64 0, .int .i64 0, .int .i64 0], none, 0, none, [0, 1, 2, 3], [1, 1, 1, 1], [3, 3, 3, 3], [.int .i64, .int .i64, .int .i64, .int .i64], true⟩),
  (23, ⟨4, true, [.int .i64 0, .int .i64 0, .int .i64 0, .int .i64 0], none, 0, none, [0, 1, 2, 3], [1, 1, 1, 1], [3, 3, 3, 3], [.int .i64, .int .i64, .int .i64, .int .i64], true⟩),
  (25, ⟨4, true, [.int .i64 0, .int .i64 0, .int .i64 0, .int .i64 0], none, 0, none, [0, 1, 2, 3], [1, 1, 1, 1], [3, 3, 3, 3], [.int .i64, .int .i64, .int .i64, .int .i64], true⟩),
  (32, ⟨1, false, [.arr (.emp (.vecs 155 3))], some (.vecs 155 3), 3, none, [], [], [], [.sl 32], false⟩),
  (33, ⟨2, true, [.int .i64 0, .arr (.emp (.vecs 155 3))], none, 0, none, [0, 1], [1, 1], [3, 32], [.int .i64, .sl 32], false⟩),
  (34, ⟨2, true, [.int .i64 0, .arr (.emp (.vecs 155 3))], none, 0, none, [0, 1], [1, 1], [3, 32], [.int .i64, .sl 32], false⟩),
  (37, ⟨1, false, [.arr (.emp (.vecs 49 3))], some (.vecs 49 3), 3, none, [], [], [], [.sl 37], false⟩),
  (38, ⟨2, true, [.int .i64 0, .arr (.emp (.vecs 49 3))], none, 0, none, [0, 1], [1, 1], [3, 37], [.int .i64, .sl 37], false⟩),
  (39, ⟨2, true, [.int .i64 0, .arr (.emp (.vecs 49 3))], none, 0, none, [0, 1], [1, 1], [3, 37], [.int .i64, .sl 37], false⟩),
  (43, ⟨1, false, [.arr (.emp (.ints 5 .u8))], some (.ints 5 .u8), 1, none, [], [], [], [.sl 43], false⟩),
  (48, ⟨3, true, [.int .i64 0, .int .i64 0, .int .i64 0], none, 0, none, [0, 1, 2], [1, 1, 1], [3, 3, 3], [.int .i64, .int .i64, .int .i64], true⟩),
  (49, ⟨3, true, [.int .i64 0, .int .i64 0, .int .i64 0], none, 0, none, [0, 1, 2], [1, 1, 1], [3, 3, 3], [.int .i64, .int .i64, .int .i64], true⟩),
  (50, ⟨1, false, [.arr (.emp (.vecs 124 3))], some (.vecs 124 3), 3, none, [], [], [], [.sl 50], false⟩),
  (53, ⟨1, false, [.arr (.emp (.vecs 73 3))], some (.vecs 73 3), 3, none, [], [], [], [.sl 53], false⟩),
  (59, ⟨1, false, [.arr (.emp (.ints 3 .i64))], some (.ints 3 .i64), 1, none, [], [], [], [.sl 59], false⟩),
  (72, ⟨3, true, [.int .i64 0, .int .i64 0, .int .i64 0], none, 0, none, [0, 1, 2], [1, 1, 1], [3, 3, 3], [.int .i64, .int .i64, .int .i64], true⟩),
  (73, ⟨3, true, [.int .i64 0, .int .i64 0, .int .i64 0], none, 0, none, [0, 1, 2], [1, 1, 1], [3, 3, 3], [.int .i64, .int .i64, .int .i64], true⟩),
  (75, ⟨1, false, [.arr (.emp (.vecs 139 2))], some (.vecs 139 2), 2, none, [], [], [], [.sl 75], false⟩),
  (76, ⟨7, true, [.int .i64 0, .int .i64 0, .int .i64 0, .int .i64 0, .int .i64 0, .arr (.emp (.vecs 139 2)), .arr (.emp (.ints 3 .i64))], none, 0, none, [0, 1, 2, 3, 4, 5, 6], [1, 1, 1, 1, 1, 1, 1], [3, 3, 3, 3, 3, 75, 59], [.int .i64, .int .i64, .int .i64, .int .i64, .int .i64, .sl 75, .sl 59], false⟩),
  (77, ⟨7, true, [.int .i64 0, .int .i64 0, .int .i64 0, .int .i64 0, .int .i64 0, .arr (.emp (.vecs 139 2)), .arr (.emp (.ints 3 .i64))], none, 0, none, [0, 1, 2, 3, 4, 5, 6], [1, 1, 1, 1, 1, 1, 1], [3, 3, 3, 3, 3, 75, 59], [.int .i64, .int .i64, .int .i64, .int .i64, .int .i64, .sl 75, .sl 59], false⟩),
  (80, ⟨1, false, [.arr (.emp (.vecs 135 2))], some (.vecs 135 2), 2, none, [], [], [], [.sl 80], false⟩),
  (81, ⟨7, true, [.int .i64 0, .int .i64 0, .int .i64 0, .int .i64 0, .int .i64 0, .arr (.emp (.vecs 135 2)), .arr (.emp (.ints 3 .i64))], none, 0, none, [0, 1, 2, 3, 4, 5, 6], [1, 1, 1, 1, 1, 1, 1], [3, 3, 3, 3, 3, 80, 59], [.int .i64, .int .i64, .int .i64, .int .i64, .int .i64, .sl 80, .sl 59], false⟩),
  (82, ⟨7, true, [.int .i64 0, .int .i64 0, .int .i64 0, .int .i64 0, .int .i64 0, .arr (.emp (.vecs 135 2)), .arr (.emp (.ints 3 .i64))], none, 0, none, [0, 1, 2, 3, 4, 5, 6], [1, 1, 1, 1, 1, 1, 1], [3, 3, 3, 3, 3, 80, 59], [.int .i64, .int .i64, .int .i64, .int .i64, .int .i64, .sl 80, .sl 59], false⟩),
  (124, ⟨3, true, [.int .i64 0, .int .i64 0, .int .i64 0], none, 0, none, [0, 1, 2], [1, 1, 1], [3, 3, 3], [.int .i64, .int .i64, .int .i64], true⟩),
  (134, ⟨2, true, [.int .i64 0, .int .i64 0], none, 0, none, [0, 1], [1, 1], [3, 3], [.int .i64, .int .i64], true⟩),
  (135, ⟨2, true, [.int .i64 0, .int .i64 0], none, 0, none, [0, 1], [1, 1], [3, 3], [.int .i64, .int .i64], true⟩),
  (139, ⟨2, true, [.int .i64 0, .int .i64 0], none, 0, none, [0, 1], [1, 1], [3, 3], [.int .i64, .int .i64], true⟩),
  (155, ⟨3, true, [.int .i64 0, .int .i64 0, .int .i64 0], none, 0, none, [0, 1, 2], [1, 1, 1], [3, 3, 3], [.int .i64, .int .i64, .int .i64], true⟩),
  (157, ⟨3, true, [.arr (.emp (.ints 5 .u8)), .int .i64 0, .int .i64 0], none, 0, none, [0, 1, 2], [1, 1, 1], [43, 3, 3], [.sl 43, .int .i64, .int .i64], false⟩),
  (158, ⟨3, true, [.arr (.emp (.ints 5 .u8)), .int .i64 0, .int .i64 0], none, 0, none, [0, 1, 2], [1, 1, 1], [43, 3, 3], [.sl 43, .int .i64, .int .i64], false⟩),
  (163, ⟨1, false, [.int .u64 0], none, 0, none, [], [], [], [.int .u64], false⟩),
  (168, ⟨1, false, [.int .i64 0], none, 0, none, [], [], [], [.int .i64], false⟩),
  (175, ⟨1, false, [.int .u32 0], none, 0, none, [], [], [], [.int .u32], false⟩),
  (177, ⟨1, false, [.int .u64 0], none, 0, none, [], [], [], [.int .u64], false⟩),
  (178, ⟨1, false, [.int .u64 0], none, 0, none, [], [], [], [.int .u64], false⟩),
  (193, ⟨1, false, [.int .u8 0], none, 0, none, [], [], [], [.int .u8], false⟩),
  (194, ⟨1, false, [.int .u8 0], none, 0, none, [], [], [], [.int .u8], false⟩),
  (197, ⟨1, false, [.int .i32 0], none, 0, none, [], [], [], [.int .i32], false⟩),
  (198, ⟨1, false, [.int .i32 0], none, 0, none, [], [], [], [.int .i32], false⟩)]
theorem mixed : Try.prog.follows .mixedOrders = true := by kernel_rfl
theorem cx_ok : PM.CxOk Try.prog cx := PM.cxChk_ok (by kernel_rfl)
theorem cx_read : PM.CxRead Try.prog cx := PM.cxRead_ok (by kernel_rfl)

theorem cx_at2 : PM.find cx 2 = some ⟨1, false, [.int .i64 0], none, 0, none, [], [], [], [.int .i64], false⟩ := by kernel_rfl
theorem cx_at3 : PM.find cx 3 = some ⟨1, false, [.int .i64 0], none, 0, none, [], [], [], [.int .i64], false⟩ := by kernel_rfl
theorem cx_at4 : PM.find cx 4 = some ⟨1, false, [.bool false], none, 0, none, [], [], [], [.bool], false⟩ := by kernel_rfl
theorem cx_at5 : PM.find cx 5 = some ⟨1, false, [.int .u8 0], none, 0, none, [], [], [], [.int .u8], false⟩ := by kernel_rfl
theorem cx_at6 : PM.find cx 6 = some ⟨1, false, [.int .u8 0], none, 0, none, [], [], [], [.int .u8], false⟩ := by kernel_rfl
theorem cx_at7 : PM.find cx 7 = some ⟨4, true, [.int .i64 0, .int .i64 0, .bool false, .int .u8 0], none, 0, none, [0, 1, 2, 3], [1, 1, 1, 1], [2, 3, 4, 6], [.int .i64, .int .i64, .bool, .int .u8], true⟩ := by kernel_rfl
theorem cx_at8 : PM.find cx 8 = some ⟨4, true, [.int .i64 0, .int .i64 0, .bool false, .int .u8 0], none, 0, none, [0, 1, 2, 3], [1, 1, 1, 1], [2, 3, 4, 6], [.int .i64, .int .i64, .bool, .int .u8], true⟩ := by kernel_rfl
theorem cx_at12 : PM.find cx 12 = some ⟨1, false, [.int .u64 0], none, 0, none, [], [], [], [.int .u64], false⟩ := by kernel_rfl
theorem cx_at21 : PM.find cx 21 = some ⟨1, false, [.int .i32 0], none, 0, none, [], [], [], [.int .i32], false⟩ := by kernel_rfl
theorem cx_at22 : PM.find cx 22 = some ⟨4, true, [.int .i64 0, .int .i64 0, .int .i64 0, .int .i64 0], none, 0, none, [0, 1, 2, 3], [1, 1, 1, 1], [3, 3, 3, 3], [.int .i64, .int .i64, .int .i64, .int .i64], true⟩ := by kernel_rfl
theorem cx_at23 : PM.find cx 23 = some ⟨4, true, [.int .i64 0, .int .i64 0, .int .i64 0, .int .i64 0], none, 0, none, [0, 1, 2, 3], [1, 1, 1, 1], [3, 3, 3, 3], [.int .i64, .int .i64, .int .i64, .int .i64], true⟩ := by kernel_rfl
theorem cx_at25 : PM.find cx 25 = some ⟨4, true, [.int .i64 0, .int .i64 0, .int .i64 0, .int .i64 0], none, 0, none, [0, 1, 2, 3], [1, 1, 1, 1], [3, 3, 3, 3], [.int .i64, .int .i64, .int .i64, .int .i64], true⟩ := by kernel_rfl
theorem cx_at32 : PM.find cx 32 = some ⟨1, false, [.arr (.emp (.vecs 155 3))], some (.vecs 155 3), 3, none, [], [], [], [.sl 32], false⟩ := by kernel_rfl
theorem cx_at33 : PM.find cx 33 = some ⟨2, true, [.int .i64 0, .arr (.emp (.vecs 155 3))], none, 0, none, [0, 1], [1, 1], [3, 32], [.int .i64, .sl 32], false⟩ := by kernel_rfl
theorem cx_at34 : PM.find cx 34 = some ⟨2, true, [.int .i64 0, .arr (.emp (.vecs 155 3))], none, 0, none, [0, 1], [1, 1], [3, 32], [.int .i64, .sl 32], false⟩ := by kernel_rfl
theorem cx_at37 : PM.find cx 37 = some ⟨1, false, [.arr (.emp (.vecs 49 3))], some (.vecs 49 3), 3, none, [], [], [], [.sl 37], false⟩ := by kernel_rfl
theorem cx_at38 : PM.find cx 38 = some ⟨2, true, [.int .i64 0, .arr (.emp (.vecs 49 3))], none, 0, none, [0, 1], [1, 1], [3, 37], [.int .i64, .sl 37], false⟩ := by kernel_rfl
theorem cx_at39 : PM.find cx 39 = some ⟨2, true, [.int .i64 0, .arr (.emp (.vecs 49 3))], none, 0, none, [0, 1], [1, 1], [3, 37], [.int .i64, .sl 37], false⟩ := by kernel_rfl
theorem cx_at43 : PM.find cx 43 = some ⟨1, false, [.arr (.emp (.ints 5 .u8))], some (.ints 5 .u8), 1, none, [], [], [], [.sl 43], false⟩ := by kernel_rfl
theorem cx_at48 : PM.find cx 48 = some ⟨3, true, [.int .i64 0, .int .i64 0, .int .i64 0], none, 0, none, [0, 1, 2], [1, 1, 1], [3, 3, 3], [.int .i64, .int .i64, .int .i64], true⟩ := by kernel_rfl
theorem cx_at49 : PM.find cx 49 = some ⟨3, true, [.int .i64 0, .int .i64 0, .int .i64 0], none, 0, none, [0, 1, 2], [1, 1, 1], [3, 3, 3], [.int .i64, .int .i64, .int .i64], true⟩ := by kernel_rfl
theorem cx_at50 : PM.find cx 50 = some ⟨1, false, [.arr (.emp (.vecs 124 3))], some (.vecs 124 3), 3, none, [], [], [], [.sl 50], false⟩ := by kernel_rfl
theorem cx_at53 : PM.find cx 53 = some ⟨1, false, [.arr (.emp (.vecs 73 3))], some (.vecs 73 3), 3, none, [], [], [], [.sl 53], false⟩ := by kernel_rfl
theorem cx_at59 : PM.find cx 59 = some ⟨1, false, [.arr (.emp (.ints 3 .i64))], some (.ints 3 .i64), 1, none, [], [], [], [.sl 59], false⟩ := by kernel_rfl
theorem cx_at72 : PM.find cx 72 = some ⟨3, true, [.int .i64 0, .int .i64 0, .int .i64 0], none, 0, none, [0, 1, 2], [1, 1, 1], [3, 3, 3], [.int .i64, .int .i64, .int .i64], true⟩ := by kernel_rfl
theorem cx_at73 : PM.find cx 73 = some ⟨3, true, [.int .i64 0, .int .i64 0, .int .i64 0], none, 0, none, [0, 1, 2], [1, 1, 1], [3, 3, 3], [.int .i64, .int .i64, .int .i64], true⟩ := by kernel_rfl
theorem cx_at75 : PM.find cx 75 = some ⟨1, false, [.arr (.emp (.vecs 139 2))], some (.vecs 139 2), 2, none, [], [], [], [.sl 75], false⟩ := by kernel_rfl
theorem cx_at76 : PM.find cx 76 = some ⟨7, true, [.int .i64 0, .int .i64 0, .int .i64 0, .int .i64 0, .int .i64 0, .arr (.emp (.vecs 139 2)), .arr (.emp (.ints 3 .i64))], none, 0, none, [0, 1, 2, 3, 4, 5, 6], [1, 1, 1, 1, 1, 1, 1], [3, 3, 3, 3, 3, 75, 59], [.int .i64, .int .i64, .int .i64, .int .i64, .int .i64, .sl 75, .sl 59], false⟩ := by kernel_rfl
theorem cx_at77 : PM.find cx 77 = some ⟨7, true, [.int .i64 0, .int .i64 0, .int .i64 0, .int .i64 0, .int .i64 0, .arr (.emp (.vecs 139 2)), .arr (.emp (.ints 3 .i64))], none, 0, none, [0, 1, 2, 3, 4, 5, 6], [1, 1, 1, 1, 1, 1, 1], [3, 3, 3, 3, 3, 75, 59], [.int .i64, .int .i64, .int .i64, .int .i64, .int .i64, .sl 75, .sl 59], false⟩ := by kernel_rfl
theorem cx_at80 : PM.find cx 80 = some ⟨1, false, [.arr (.emp (.vecs 135 2))], some (.vecs 135 2), 2, none, [], [], [], [.sl 80], false⟩ := by kernel_rfl
theorem cx_at81 : PM.find cx 81 = some ⟨7, true, [.int .i64 0, .int .i64 0, .int .i64 0, .int .i64 0, .int .i64 0, .arr (.emp (.vecs 135 2)), .arr (.emp (.ints 3 .i64))], none, 0, none, [0, 1, 2, 3, 4, 5, 6], [1, 1, 1, 1, 1, 1, 1], [3, 3, 3, 3, 3, 80, 59], [.int .i64, .int .i64, .int .i64, .int .i64, .int .i64, .sl 80, .sl 59], false⟩ := by kernel_rfl
theorem cx_at82 : PM.find cx 82 = some ⟨7, true, [.int .i64 0, .int .i64 0, .int .i64 0, .int .i64 0, .int .i64 0, .arr (.emp (.vecs 135 2)), .arr (.emp (.ints 3 .i64))], none, 0, none, [0, 1, 2, 3, 4, 5, 6], [1, 1, 1, 1, 1, 1, 1], [3, 3, 3, 3, 3, 80, 59], [.int .i64, .int .i64, .int .i64, .int .i64, .int .i64, .sl 80, .sl 59], false⟩ := by kernel_rfl
theorem cx_at124 : PM.find cx 124 = some ⟨3, true, [.int .i64 0, .int .i64 0, .int .i64 0], none, 0, none, [0, 1, 2], [1, 1, 1], [3, 3, 3], [.int .i64, .int .i64, .int .i64], true⟩ := by kernel_rfl
theorem cx_at134 : PM.find cx 134 = some ⟨2, true, [.int .i64 0, .int .i64 0], none, 0, none, [0, 1], [1, 1], [3, 3], [.int .i64, .int .i64], true⟩ := by kernel_rfl
theorem cx_at135 : PM.find cx 135 = some ⟨2, true, [.int .i64 0, .int .i64 0], none, 0, none, [0, 1], [1, 1], [3, 3], [.int .i64, .int .i64], true⟩ := by kernel_rfl
theorem cx_at139 : PM.find cx 139 = some ⟨2, true, [.int .i64 0, .int .i64 0], none, 0, none, [0, 1], [1, 1], [3, 3], [.int .i64, .int .i64], true⟩ := by kernel_rfl
theorem cx_at155 : PM.find cx 155 = some ⟨3, true, [.int .i64 0, .int .i64 0, .int .i64 0], none, 0, none, [0, 1, 2], [1, 1, 1], [3, 3, 3], [.int .i64, .int .i64, .int .i64], true⟩ := by kernel_rfl
theorem cx_at157 : PM.find cx 157 = some ⟨3, true, [.arr (.emp (.ints 5 .u8)), .int .i64 0, .int .i64 0], none, 0, none, [0, 1, 2], [1, 1, 1], [43, 3, 3], [.sl 43, .int .i64, .int .i64], false⟩ := by kernel_rfl
theorem cx_at158 : PM.find cx 158 = some ⟨3, true, [.arr (.emp (.ints 5 .u8)), .int .i64 0, .int .i64 0], none, 0, none, [0, 1, 2], [1, 1, 1], [43, 3, 3], [.sl 43, .int .i64, .int .i64], false⟩ := by kernel_rfl
theorem cx_at163 : PM.find cx 163 = some ⟨1, false, [.int .u64 0], none, 0, none, [], [], [], [.int .u64], false⟩ := by kernel_rfl
theorem cx_at168 : PM.find cx 168 = some ⟨1, false, [.int .i64 0], none, 0, none, [], [], [], [.int .i64], false⟩ := by kernel_rfl
theorem cx_at175 : PM.find cx 175 = some ⟨1, false, [.int .u32 0], none, 0, none, [], [], [], [.int .u32], false⟩ := by kernel_rfl
theorem cx_at177 : PM.find cx 177 = some ⟨1, false, [.int .u64 0], none, 0, none, [], [], [], [.int .u64], false⟩ := by kernel_rfl
theorem cx_at178 : PM.find cx 178 = some ⟨1, false, [.int .u64 0], none, 0, none, [], [], [], [.int .u64], false⟩ := by kernel_rfl
theorem cx_at193 : PM.find cx 193 = some ⟨1, false, [.int .u8 0], none, 0, none, [], [], [], [.int .u8], false⟩ := by kernel_rfl
theorem cx_at194 : PM.find cx 194 = some ⟨1, false, [.int .u8 0], none, 0, none, [], [], [], [.int .u8], false⟩ := by kernel_rfl
theorem cx_at197 : PM.find cx 197 = some ⟨1, false, [.int .i32 0], none, 0, none, [], [], [], [.int .i32], false⟩ := by kernel_rfl
theorem cx_at198 : PM.find cx 198 = some ⟨1, false, [.int .i32 0], none, 0, none, [], [], [], [.int .i32], false⟩ := by kernel_rfl

abbrev laws_szWordS_T := (List (List Int)) → (Int) → ((Int) → PM.R) → PM.R
noncomputable def laws_szWordS_w (c : laws_szWordS_T) (ds : List PM.V) (k : PM.V → PM.R) : PM.R :=
  match ds with
  | [.arr (.vecs 155 3 a), .int .i64 left] => c a left (fun r0 => k (.int .i64 r0))
  | _ => none
noncomputable def laws_szWordS_f (A : PM.Prims) (a : List (List Int)) (left : Int) (k : (Int) → PM.R) : PM.R :=
  bif (A.lt (A.sub .i64 left (A.vlen a)) 0) then
    k (-1)
  else
    k (A.sub .i64 left (A.vlen a))
noncomputable def laws_szWordS (A : PM.Prims) : laws_szWordS_T := laws_szWordS_f A
noncomputable def laws_szWordS_L (A : PM.Prims) (n : Nat) : PM.Lam := fun cur σ K =>
  match cur, σ, K with
  | _, _, _ => none
noncomputable def laws_szWordS_E (A : PM.Prims) : PM.Env := ⟨[], [], [], [(0, [0, 1]), (1, [1]), (2, [1, 10]), (3, [4]), (4, [4])], laws_szWordS_L A A.fuel⟩
theorem laws_szWordS_ok (A : PM.Prims) (a : List (List Int)) (left : Int) (k : PM.V → PM.R) : PM.pfun A cx [] (laws_szWordS_E A) Go.Proofs.Try.f99 [.arr (.vecs 155 3 a), .int .i64 left] k = laws_szWordS_f A a left (fun r0 => k (.int .i64 r0)) := by kernel_rfl

theorem laws_szWordS_fn : PM.FnIs Try.prog 99 Try.f99 := .of Try.func99 (by kernel_rfl) (by kernel_rfl)
theorem laws_szWordS_g : PM.GOk Try.prog cx 99 ⟨[], laws_szWordS_w (laws_szWordS PM.std), none⟩ := by
  refine ⟨laws_szWordS_fn.enter, fun _ ds k r h => ?_, fun hm => absurd rfl hm, fun _ e => (by cases e)⟩
  change laws_szWordS_w (laws_szWordS PM.std) ds k = some r at h
  unfold laws_szWordS_w at h
  split at h
  · exact PM.pfun_ok (E := laws_szWordS_E PM.std) (L := fun n => laws_szWordS_L PM.std n) (N := PM.std.fuel) cx_ok .nil mixed .nil laws_szWordS_fn (by kernel_rfl) ⟨rfl, fun _ _ _ => rfl, fun n cur σ K r h => by cases h⟩
      ((laws_szWordS_ok PM.std _ _ k).trans h)
  · cases h

abbrev laws_szMem_T := (Int) → (List (List Int)) → (Int) → ((Int) → PM.R) → PM.R
noncomputable def laws_szMem_w (c : laws_szMem_T) (ds : List PM.V) (k : PM.V → PM.R) : PM.R :=
  match ds with
  | [.agg [.int .i64 a_Clock, .arr (.vecs 155 3 a_Cells)], .int .i64 left] => c a_Clock a_Cells left (fun r0 => k (.int .i64 r0))
  | _ => none
noncomputable def laws_szMem_f (A : PM.Prims) (c_99 : laws_szWordS_T) (a_Clock : Int) (a_Cells : List (List Int)) (left : Int) (k : (Int) → PM.R) : PM.R :=
  c_99 a_Cells left (fun r1 =>
    bif (A.lt r1 0) then
      k (-1)
    else
      k r1)
noncomputable def laws_szMem (A : PM.Prims) : laws_szMem_T := laws_szMem_f A (laws_szWordS A)
noncomputable def laws_szMem_L (A : PM.Prims) (c_99 : laws_szWordS_T) (n : Nat) : PM.Lam := fun cur σ K =>
  match cur, σ, K with
  | _, _, _ => none
noncomputable def laws_szMem_E (A : PM.Prims) (c_99 : laws_szWordS_T) : PM.Env := ⟨[(99, ⟨[], laws_szWordS_w c_99, none⟩)], [], [], [(0, [1, 2]), (1, [1]), (2, [1, 10]), (3, [4]), (4, [4])], laws_szMem_L A c_99 A.fuel⟩
theorem laws_szMem_ok (A : PM.Prims) (c_99 : laws_szWordS_T) (a_Clock : Int) (a_Cells : List (List Int)) (left : Int) (k : PM.V → PM.R) : PM.pfun A cx [] (laws_szMem_E A c_99) Go.Proofs.Try.f28 [.agg [.int .i64 a_Clock, .arr (.vecs 155 3 a_Cells)], .int .i64 left] k = laws_szMem_f A c_99 a_Clock a_Cells left (fun r0 => k (.int .i64 r0)) := by kernel_rfl

theorem laws_szMem_fn : PM.FnIs Try.prog 28 Try.f28 := .of Try.func28 (by kernel_rfl) (by kernel_rfl)
theorem laws_szMem_g : PM.GOk Try.prog cx 28 ⟨[], laws_szMem_w (laws_szMem PM.std), none⟩ := by
  refine ⟨laws_szMem_fn.enter, fun _ ds k r h => ?_, fun hm => absurd rfl hm, fun _ e => (by cases e)⟩
  change laws_szMem_w (laws_szMem PM.std) ds k = some r at h
  unfold laws_szMem_w at h
  split at h
  · exact PM.pfun_ok (E := laws_szMem_E PM.std (laws_szWordS PM.std)) (L := fun n => laws_szMem_L PM.std (laws_szWordS PM.std) n) (N := PM.std.fuel) cx_ok (.cons laws_szWordS_g .nil) mixed .nil laws_szMem_fn (by kernel_rfl) ⟨rfl, fun _ _ _ => rfl, fun n cur σ K r h => by cases h⟩
      ((laws_szMem_ok PM.std (laws_szWordS PM.std) _ _ _ k).trans h)
  · cases h

abbrev laws_toWord_T := (Int) → (Int) → (Int) → ((Int) → (Int) → (Int) → PM.R) → PM.R
noncomputable def laws_toWord_w (c : laws_toWord_T) (ds : List PM.V) (k : PM.V → PM.R) : PM.R :=
  match ds with
  | [.agg [.int .i64 a_Val, .int .i64 a_Ver, .int .i64 a_Owner]] => c a_Val a_Ver a_Owner (fun r0_Val r0_Ver r0_Owner => k (.agg [.int .i64 r0_Val, .int .i64 r0_Ver, .int .i64 r0_Owner]))
  | _ => none
noncomputable def laws_toWord_f (A : PM.Prims) (a_Val : Int) (a_Ver : Int) (a_Owner : Int) (k : (Int) → (Int) → (Int) → PM.R) : PM.R :=
  k a_Val a_Ver a_Owner
noncomputable def laws_toWord (A : PM.Prims) : laws_toWord_T := laws_toWord_f A
noncomputable def laws_toWord_L (A : PM.Prims) (n : Nat) : PM.Lam := fun cur σ K =>
  match cur, σ, K with
  | _, _, _ => none
noncomputable def laws_toWord_E (A : PM.Prims) : PM.Env := ⟨[], [], [], [(0, [1, 2]), (1, [1, 2, 3]), (2, [1, 2, 3]), (3, [1, 2, 3]), (4, [2, 3]), (5, [2])], laws_toWord_L A A.fuel⟩
theorem laws_toWord_ok (A : PM.Prims) (a_Val : Int) (a_Ver : Int) (a_Owner : Int) (k : PM.V → PM.R) : PM.pfun A cx [] (laws_toWord_E A) Go.Proofs.Try.f156 [.agg [.int .i64 a_Val, .int .i64 a_Ver, .int .i64 a_Owner]] k = laws_toWord_f A a_Val a_Ver a_Owner (fun r0_Val r0_Ver r0_Owner => k (.agg [.int .i64 r0_Val, .int .i64 r0_Ver, .int .i64 r0_Owner])) := by kernel_rfl

theorem laws_toWord_fn : PM.FnIs Try.prog 156 Try.f156 := .of Try.func156 (by kernel_rfl) (by kernel_rfl)
theorem laws_toWord_g : PM.GOk Try.prog cx 156 ⟨[], laws_toWord_w (laws_toWord PM.std), none⟩ := by
  refine ⟨laws_toWord_fn.enter, fun _ ds k r h => ?_, fun hm => absurd rfl hm, fun _ e => (by cases e)⟩
  change laws_toWord_w (laws_toWord PM.std) ds k = some r at h
  unfold laws_toWord_w at h
  split at h
  · exact PM.pfun_ok (E := laws_toWord_E PM.std) (L := fun n => laws_toWord_L PM.std n) (N := PM.std.fuel) cx_ok .nil mixed .nil laws_toWord_fn (by kernel_rfl) ⟨rfl, fun _ _ _ => rfl, fun n cur σ K r h => by cases h⟩
      ((laws_toWord_ok PM.std _ _ _ k).trans h)
  · cases h

abbrev laws_toWordS_T := (List (List Int)) → ((List (List Int)) → PM.R) → PM.R
noncomputable def laws_toWordS_w (c : laws_toWordS_T) (ds : List PM.V) (k : PM.V → PM.R) : PM.R :=
  match ds with
  | [.arr (.vecs 155 3 a)] => c a (fun r0 => k (.arr (.vecs 49 3 r0)))
  | _ => none
noncomputable def laws_toWordS_l0 (A : PM.Prims) (c_156 : laws_toWord_T) : Nat → (List (List Int)) → (Int) → (List (List Int)) → ((List (List Int)) → PM.R) → PM.R
  | 0, _, _, _, _ => none
  | n + 1, a1, i2, o03, kx0_0 =>
    bif (A.lt i2 (A.vlen a1)) then
      bif (A.inb i2 (A.vlen a1)) then
        c_156 (A.vget a1 i2 0) (A.vget a1 i2 1) (A.vget a1 i2 2) (fun r4 r5 r6 =>
          bif (A.inb i2 (A.vlen o03)) then
            laws_toWordS_l0 A c_156 n a1 (A.add .i64 i2 1) (A.vput o03 i2 [r4, r5, r6]) kx0_0
          else
            none)
      else
        none
    else
      kx0_0 o03
noncomputable def laws_toWordS_f (A : PM.Prims) (c_156 : laws_toWord_T) (a : List (List Int)) (k : (List (List Int)) → PM.R) : PM.R :=
  bif (A.mkOk (A.vlen a)) then
    bif (A.le (A.vlen a) (A.vlen a)) then
      bif (A.mkOk (A.vlen a)) then
        laws_toWordS_l0 A c_156 A.fuel a 0 (A.vzero 3 (A.vlen a)) (fun o078 =>
          k o078)
      else
        none
    else
      none
  else
    none
noncomputable def laws_toWordS (A : PM.Prims) : laws_toWordS_T := laws_toWordS_f A (laws_toWord A)
noncomputable def laws_toWordS_L (A : PM.Prims) (c_156 : laws_toWord_T) (n : Nat) : PM.Lam := fun cur σ K =>
  match cur, σ, K with
  | 0, ⟨[(0, .arr (.vecs 155 3 a1)), (3, .sref 0), (4, .int .i64 i2)], [(0, .arr true (.vecs 49 3 o03))]⟩, K => laws_toWordS_l0 A c_156 n a1 i2 o03 (fun o07 => K (.exit 0) ⟨[(3, .sref 0)], [(0, .arr true (.vecs 49 3 o07))]⟩)
  | _, _, _ => none
noncomputable def laws_toWordS_E (A : PM.Prims) (c_156 : laws_toWord_T) : PM.Env := ⟨[(156, ⟨[], laws_toWord_w c_156, none⟩)], [], [(0, [0, 3, 4], [2, 3])], [(0, [0]), (1, [0, 3]), (2, [0, 3, 4]), (3, [0, 3, 4, 11]), (4, [0, 3, 4]), (5, [0, 3, 4]), (6, [2])], laws_toWordS_L A c_156 A.fuel⟩
theorem laws_toWordS_l0_ok (A : PM.Prims) (c_156 : laws_toWord_T) (n : Nat) (a1 : List (List Int)) (i2 : Int) (o03 : List (List Int)) (K : Go.Exit → PM.S → PM.R) : laws_toWordS_L A c_156 (n + 1) 0 ⟨[(0, .arr (.vecs 155 3 a1)), (3, .sref 0), (4, .int .i64 i2)], [(0, .arr true (.vecs 49 3 o03))]⟩ K = PM.roundF A cx (PM.runD A cx (laws_toWordS_E A c_156).inl (laws_toWordS_E A c_156).Γ 3) (laws_toWordS_E A c_156) (laws_toWordS_L A c_156 n) 0 Go.Proofs.Try.f100 ⟨[(0, .arr (.vecs 155 3 a1)), (3, .sref 0), (4, .int .i64 i2)], [(0, .arr true (.vecs 49 3 o03))]⟩ K := by kernel_rfl
theorem laws_toWordS_ok (A : PM.Prims) (c_156 : laws_toWord_T) (a : List (List Int)) (k : PM.V → PM.R) : PM.pfun A cx [] (laws_toWordS_E A c_156) Go.Proofs.Try.f100 [.arr (.vecs 155 3 a)] k = laws_toWordS_f A c_156 a (fun r0 => k (.arr (.vecs 49 3 r0))) := by kernel_rfl

theorem laws_toWordS_fn : PM.FnIs Try.prog 100 Try.f100 := .of Try.func100 (by kernel_rfl) (by kernel_rfl)
theorem laws_toWordS_g : PM.GOk Try.prog cx 100 ⟨[], laws_toWordS_w (laws_toWordS PM.std), none⟩ := by
  refine ⟨laws_toWordS_fn.enter, fun _ ds k r h => ?_, fun hm => absurd rfl hm, fun _ e => (by cases e)⟩
  change laws_toWordS_w (laws_toWordS PM.std) ds k = some r at h
  unfold laws_toWordS_w at h
  split at h
  · exact PM.pfun_ok (E := laws_toWordS_E PM.std (laws_toWord PM.std)) (L := fun n => laws_toWordS_L PM.std (laws_toWord PM.std) n) (N := PM.std.fuel) cx_ok (.cons laws_toWord_g .nil) mixed .nil laws_toWordS_fn (by kernel_rfl) ⟨rfl, fun cur σ K => by
      dsimp only [laws_toWordS_L]
      split <;> rfl, fun n cur σ K r h => by
      dsimp only [laws_toWordS_L] at h
      split at h
      · exact (laws_toWordS_l0_ok PM.std (laws_toWord PM.std) n _ _ _ K).symm.trans h
      · cases h⟩
      ((laws_toWordS_ok PM.std (laws_toWord PM.std) _ k).trans h)
  · cases h

abbrev laws_toMem_T := (Int) → (List (List Int)) → ((Int) → (List (List Int)) → PM.R) → PM.R
noncomputable def laws_toMem_w (c : laws_toMem_T) (ds : List PM.V) (k : PM.V → PM.R) : PM.R :=
  match ds with
  | [.agg [.int .i64 a_Clock, .arr (.vecs 155 3 a_Cells)]] => c a_Clock a_Cells (fun r0_Clock r0_Cells => k (.agg [.int .i64 r0_Clock, .arr (.vecs 49 3 r0_Cells)]))
  | _ => none
noncomputable def laws_toMem_f (A : PM.Prims) (c_100 : laws_toWordS_T) (a_Clock : Int) (a_Cells : List (List Int)) (k : (Int) → (List (List Int)) → PM.R) : PM.R :=
  c_100 a_Cells (fun r1 =>
    k a_Clock r1)
noncomputable def laws_toMem (A : PM.Prims) : laws_toMem_T := laws_toMem_f A (laws_toWordS A)
noncomputable def laws_toMem_L (A : PM.Prims) (c_100 : laws_toWordS_T) (n : Nat) : PM.Lam := fun cur σ K =>
  match cur, σ, K with
  | _, _, _ => none
noncomputable def laws_toMem_E (A : PM.Prims) (c_100 : laws_toWordS_T) : PM.Env := ⟨[(100, ⟨[], laws_toWordS_w c_100, none⟩)], [], [], [(0, [1, 2]), (1, [1, 2, 3]), (2, [1, 2, 3]), (3, [2, 3]), (4, [2])], laws_toMem_L A c_100 A.fuel⟩
theorem laws_toMem_ok (A : PM.Prims) (c_100 : laws_toWordS_T) (a_Clock : Int) (a_Cells : List (List Int)) (k : PM.V → PM.R) : PM.pfun A cx [] (laws_toMem_E A c_100) Go.Proofs.Try.f30 [.agg [.int .i64 a_Clock, .arr (.vecs 155 3 a_Cells)]] k = laws_toMem_f A c_100 a_Clock a_Cells (fun r0_Clock r0_Cells => k (.agg [.int .i64 r0_Clock, .arr (.vecs 49 3 r0_Cells)])) := by kernel_rfl

theorem laws_toMem_fn : PM.FnIs Try.prog 30 Try.f30 := .of Try.func30 (by kernel_rfl) (by kernel_rfl)
theorem laws_toMem_g : PM.GOk Try.prog cx 30 ⟨[], laws_toMem_w (laws_toMem PM.std), none⟩ := by
  refine ⟨laws_toMem_fn.enter, fun _ ds k r h => ?_, fun hm => absurd rfl hm, fun _ e => (by cases e)⟩
  change laws_toMem_w (laws_toMem PM.std) ds k = some r at h
  unfold laws_toMem_w at h
  split at h
  · exact PM.pfun_ok (E := laws_toMem_E PM.std (laws_toWordS PM.std)) (L := fun n => laws_toMem_L PM.std (laws_toWordS PM.std) n) (N := PM.std.fuel) cx_ok (.cons laws_toWordS_g .nil) mixed .nil laws_toMem_fn (by kernel_rfl) ⟨rfl, fun _ _ _ => rfl, fun n cur σ K r h => by cases h⟩
      ((laws_toMem_ok PM.std (laws_toWordS PM.std) _ _ k).trans h)
  · cases h

abbrev laws_toProbe_T := (Int) → (Int) → (Int) → (Int) → ((Int) → (Int) → (Int) → (Int) → PM.R) → PM.R
noncomputable def laws_toProbe_w (c : laws_toProbe_T) (ds : List PM.V) (k : PM.V → PM.R) : PM.R :=
  match ds with
  | [.agg [.int .i64 a_Cell, .int .i64 a_Phase, .int .i64 a_Ver, .int .i64 a_Val]] => c a_Cell a_Phase a_Ver a_Val (fun r0_Cell r0_Phase r0_Ver r0_Val => k (.agg [.int .i64 r0_Cell, .int .i64 r0_Phase, .int .i64 r0_Ver, .int .i64 r0_Val]))
  | _ => none
noncomputable def laws_toProbe_f (A : PM.Prims) (a_Cell : Int) (a_Phase : Int) (a_Ver : Int) (a_Val : Int) (k : (Int) → (Int) → (Int) → (Int) → PM.R) : PM.R :=
  k a_Cell a_Phase a_Ver a_Val
noncomputable def laws_toProbe (A : PM.Prims) : laws_toProbe_T := laws_toProbe_f A
noncomputable def laws_toProbe_L (A : PM.Prims) (n : Nat) : PM.Lam := fun cur σ K =>
  match cur, σ, K with
  | _, _, _ => none
noncomputable def laws_toProbe_E (A : PM.Prims) : PM.Env := ⟨[], [], [], [(0, [1, 2]), (1, [1, 2, 3]), (2, [1, 2, 3]), (3, [1, 2, 3]), (4, [1, 2, 3]), (5, [2, 3]), (6, [2])], laws_toProbe_L A A.fuel⟩
theorem laws_toProbe_ok (A : PM.Prims) (a_Cell : Int) (a_Phase : Int) (a_Ver : Int) (a_Val : Int) (k : PM.V → PM.R) : PM.pfun A cx [] (laws_toProbe_E A) Go.Proofs.Try.f23 [.agg [.int .i64 a_Cell, .int .i64 a_Phase, .int .i64 a_Ver, .int .i64 a_Val]] k = laws_toProbe_f A a_Cell a_Phase a_Ver a_Val (fun r0_Cell r0_Phase r0_Ver r0_Val => k (.agg [.int .i64 r0_Cell, .int .i64 r0_Phase, .int .i64 r0_Ver, .int .i64 r0_Val])) := by kernel_rfl

theorem laws_toProbe_fn : PM.FnIs Try.prog 23 Try.f23 := .of Try.func23 (by kernel_rfl) (by kernel_rfl)
theorem laws_toProbe_g : PM.GOk Try.prog cx 23 ⟨[], laws_toProbe_w (laws_toProbe PM.std), none⟩ := by
  refine ⟨laws_toProbe_fn.enter, fun _ ds k r h => ?_, fun hm => absurd rfl hm, fun _ e => (by cases e)⟩
  change laws_toProbe_w (laws_toProbe PM.std) ds k = some r at h
  unfold laws_toProbe_w at h
  split at h
  · exact PM.pfun_ok (E := laws_toProbe_E PM.std) (L := fun n => laws_toProbe_L PM.std n) (N := PM.std.fuel) cx_ok .nil mixed .nil laws_toProbe_fn (by kernel_rfl) ⟨rfl, fun _ _ _ => rfl, fun n cur σ K r h => by cases h⟩
      ((laws_toProbe_ok PM.std _ _ _ _ k).trans h)
  · cases h

abbrev spec_l1In_T := (Int) → (Int) → (Int) → ((Bool) → PM.R) → PM.R
noncomputable def spec_l1In_w (c : spec_l1In_T) (ds : List PM.V) (k : PM.V → PM.R) : PM.R :=
  match ds with
  | [.int .i64 x, .int .i64 low, .int .i64 high] => c x low high (fun r0 => k (.bool r0))
  | _ => none
noncomputable def spec_l1In_f (A : PM.Prims) (x : Int) (low : Int) (high : Int) (k : (Bool) → PM.R) : PM.R :=
  bif (A.le low x) then
    k (A.le x high)
  else
    k false
noncomputable def spec_l1In (A : PM.Prims) : spec_l1In_T := spec_l1In_f A
noncomputable def spec_l1In_L (A : PM.Prims) (n : Nat) : PM.Lam := fun cur σ K =>
  match cur, σ, K with
  | _, _, _ => none
noncomputable def spec_l1In_E (A : PM.Prims) : PM.Env := ⟨[], [], [], [(0, [0, 1, 2]), (1, [6])], spec_l1In_L A A.fuel⟩
theorem spec_l1In_ok (A : PM.Prims) (x : Int) (low : Int) (high : Int) (k : PM.V → PM.R) : PM.pfun A cx [] (spec_l1In_E A) Go.Proofs.Try.f94 [.int .i64 x, .int .i64 low, .int .i64 high] k = spec_l1In_f A x low high (fun r0 => k (.bool r0)) := by kernel_rfl

theorem spec_l1In_fn : PM.FnIs Try.prog 94 Try.f94 := .of Try.func94 (by kernel_rfl) (by kernel_rfl)
theorem spec_l1In_g : PM.GOk Try.prog cx 94 ⟨[], spec_l1In_w (spec_l1In PM.std), none⟩ := by
  refine ⟨spec_l1In_fn.enter, fun _ ds k r h => ?_, fun hm => absurd rfl hm, fun _ e => (by cases e)⟩
  change spec_l1In_w (spec_l1In PM.std) ds k = some r at h
  unfold spec_l1In_w at h
  split at h
  · exact PM.pfun_ok (E := spec_l1In_E PM.std) (L := fun n => spec_l1In_L PM.std n) (N := PM.std.fuel) cx_ok .nil mixed .nil spec_l1In_fn (by kernel_rfl) ⟨rfl, fun _ _ _ => rfl, fun n cur σ K r h => by cases h⟩
      ((spec_l1In_ok PM.std _ _ _ k).trans h)
  · cases h

abbrev spec_l3Val_T := (Int) → ((Bool) → PM.R) → PM.R
noncomputable def spec_l3Val_w (c : spec_l3Val_T) (ds : List PM.V) (k : PM.V → PM.R) : PM.R :=
  match ds with
  | [.int .i64 v] => c v (fun r0 => k (.bool r0))
  | _ => none
noncomputable def spec_l3Val_f (A : PM.Prims) (c_94 : spec_l1In_T) (v : Int) (k : (Bool) → PM.R) : PM.R :=
  c_94 v 0 65535 (fun r1 =>
    k r1)
noncomputable def spec_l3Val (A : PM.Prims) : spec_l3Val_T := spec_l3Val_f A (spec_l1In A)
noncomputable def spec_l3Val_L (A : PM.Prims) (c_94 : spec_l1In_T) (n : Nat) : PM.Lam := fun cur σ K =>
  match cur, σ, K with
  | _, _, _ => none
noncomputable def spec_l3Val_E (A : PM.Prims) (c_94 : spec_l1In_T) : PM.Env := ⟨[(94, ⟨[], spec_l1In_w c_94, none⟩)], [], [], [(0, [0]), (1, [2])], spec_l3Val_L A c_94 A.fuel⟩
theorem spec_l3Val_ok (A : PM.Prims) (c_94 : spec_l1In_T) (v : Int) (k : PM.V → PM.R) : PM.pfun A cx [] (spec_l3Val_E A c_94) Go.Proofs.Try.f95 [.int .i64 v] k = spec_l3Val_f A c_94 v (fun r0 => k (.bool r0)) := by kernel_rfl

theorem spec_l3Val_fn : PM.FnIs Try.prog 95 Try.f95 := .of Try.func95 (by kernel_rfl) (by kernel_rfl)
theorem spec_l3Val_g : PM.GOk Try.prog cx 95 ⟨[], spec_l3Val_w (spec_l3Val PM.std), none⟩ := by
  refine ⟨spec_l3Val_fn.enter, fun _ ds k r h => ?_, fun hm => absurd rfl hm, fun _ e => (by cases e)⟩
  change spec_l3Val_w (spec_l3Val PM.std) ds k = some r at h
  unfold spec_l3Val_w at h
  split at h
  · exact PM.pfun_ok (E := spec_l3Val_E PM.std (spec_l1In PM.std)) (L := fun n => spec_l3Val_L PM.std (spec_l1In PM.std) n) (N := PM.std.fuel) cx_ok (.cons spec_l1In_g .nil) mixed .nil spec_l3Val_fn (by kernel_rfl) ⟨rfl, fun _ _ _ => rfl, fun n cur σ K r h => by cases h⟩
      ((spec_l3Val_ok PM.std (spec_l1In PM.std) _ k).trans h)
  · cases h

abbrev spec_MemOk_T := (Int) → (List (List Int)) → ((Bool) → PM.R) → PM.R
noncomputable def spec_MemOk_w (c : spec_MemOk_T) (ds : List PM.V) (k : PM.V → PM.R) : PM.R :=
  match ds with
  | [.agg [.int .i64 m_Clock, .arr (.vecs 49 3 m_Cells)]] => c m_Clock m_Cells (fun r0 => k (.bool r0))
  | _ => none
noncomputable def spec_MemOk_l0 (A : PM.Prims) (c_94 : spec_l1In_T) (c_95 : spec_l3Val_T) : Nat → (Int) → (Int) → (List (List Int)) → ((Bool) → PM.R) → (Unit → PM.R) → PM.R
  | 0, _, _, _, _, _ => none
  | n + 1, i2, o03, o04, kret_0, kx0_0 =>
    bif (A.lt i2 (A.vlen o04)) then
      bif (A.inb i2 (A.vlen o04)) then
        c_95 (A.vget o04 i2 0) (fun r5 =>
          bif (A.not r5) then
            kret_0 false
          else
            c_94 (A.vget o04 i2 1) 0 o03 (fun r7 =>
              bif (A.not r7) then
                kret_0 false
              else
                c_94 (A.vget o04 i2 2) 0 99 (fun r8 =>
                  bif (A.not r8) then
                    kret_0 false
                  else
                    spec_MemOk_l0 A c_94 c_95 n (A.add .i64 i2 1) o03 o04 kret_0 kx0_0)))
      else
        none
    else
      kx0_0 ()
noncomputable def spec_MemOk_f (A : PM.Prims) (c_94 : spec_l1In_T) (c_95 : spec_l3Val_T) (m_Clock : Int) (m_Cells : List (List Int)) (k : (Bool) → PM.R) : PM.R :=
  bif (A.not (A.eq (A.vlen m_Cells) 8)) then
    k false
  else
    c_94 m_Clock 0 1000000 (fun r1 =>
      bif (A.not r1) then
        k false
      else
        spec_MemOk_l0 A c_94 c_95 A.fuel 0 m_Clock m_Cells (fun t269 =>
          k t269) (fun _ =>
          k true))
noncomputable def spec_MemOk (A : PM.Prims) : spec_MemOk_T := spec_MemOk_f A (spec_l1In A) (spec_l3Val A)
noncomputable def spec_MemOk_L (A : PM.Prims) (c_94 : spec_l1In_T) (c_95 : spec_l3Val_T) (n : Nat) : PM.Lam := fun cur σ K =>
  match cur, σ, K with
  | 0, ⟨[(1, .pbox 0 0), (3, .int .i64 i2)], [(0, .box [.int .i64 o03, .arr (.vecs 49 3 o04)])]⟩, K => spec_MemOk_l0 A c_94 c_95 n i2 o03 o04 (fun t26 => K .ret ⟨[(2, .bool t26)], []⟩) (fun _ => K (.exit 0) ⟨[], []⟩)
  | _, _, _ => none
noncomputable def spec_MemOk_E (A : PM.Prims) (c_94 : spec_l1In_T) (c_95 : spec_l3Val_T) : PM.Env := ⟨[(94, ⟨[], spec_l1In_w c_94, none⟩), (95, ⟨[], spec_l3Val_w c_95, none⟩)], [], [(0, [1, 3], [2])], [(0, [1]), (1, [1, 14]), (2, [2]), (3, [1, 3]), (4, [1, 3, 19]), (5, [1, 3]), (6, [1, 3, 4]), (7, [1, 3, 44]), (8, [2]), (9, [2])], spec_MemOk_L A c_94 c_95 A.fuel⟩
theorem spec_MemOk_l0_ok (A : PM.Prims) (c_94 : spec_l1In_T) (c_95 : spec_l3Val_T) (n : Nat) (i2 : Int) (o03 : Int) (o04 : List (List Int)) (K : Go.Exit → PM.S → PM.R) : spec_MemOk_L A c_94 c_95 (n + 1) 0 ⟨[(1, .pbox 0 0), (3, .int .i64 i2)], [(0, .box [.int .i64 o03, .arr (.vecs 49 3 o04)])]⟩ K = PM.roundF A cx (PM.runD A cx (spec_MemOk_E A c_94 c_95).inl (spec_MemOk_E A c_94 c_95).Γ 3) (spec_MemOk_E A c_94 c_95) (spec_MemOk_L A c_94 c_95 n) 0 Go.Proofs.Try.f35 ⟨[(1, .pbox 0 0), (3, .int .i64 i2)], [(0, .box [.int .i64 o03, .arr (.vecs 49 3 o04)])]⟩ K := by kernel_rfl
theorem spec_MemOk_ok (A : PM.Prims) (c_94 : spec_l1In_T) (c_95 : spec_l3Val_T) (m_Clock : Int) (m_Cells : List (List Int)) (k : PM.V → PM.R) : PM.pfun A cx [] (spec_MemOk_E A c_94 c_95) Go.Proofs.Try.f35 [.agg [.int .i64 m_Clock, .arr (.vecs 49 3 m_Cells)]] k = spec_MemOk_f A c_94 c_95 m_Clock m_Cells (fun r0 => k (.bool r0)) := by kernel_rfl

theorem spec_MemOk_fn : PM.FnIs Try.prog 35 Try.f35 := .of Try.func35 (by kernel_rfl) (by kernel_rfl)
theorem spec_MemOk_g : PM.GOk Try.prog cx 35 ⟨[], spec_MemOk_w (spec_MemOk PM.std), none⟩ := by
  refine ⟨spec_MemOk_fn.enter, fun _ ds k r h => ?_, fun hm => absurd rfl hm, fun _ e => (by cases e)⟩
  change spec_MemOk_w (spec_MemOk PM.std) ds k = some r at h
  unfold spec_MemOk_w at h
  split at h
  · exact PM.pfun_ok (E := spec_MemOk_E PM.std (spec_l1In PM.std) (spec_l3Val PM.std)) (L := fun n => spec_MemOk_L PM.std (spec_l1In PM.std) (spec_l3Val PM.std) n) (N := PM.std.fuel) cx_ok (.cons spec_l1In_g (.cons spec_l3Val_g .nil)) mixed .nil spec_MemOk_fn (by kernel_rfl) ⟨rfl, fun cur σ K => by
      dsimp only [spec_MemOk_L]
      split <;> rfl, fun n cur σ K r h => by
      dsimp only [spec_MemOk_L] at h
      split at h
      · exact (spec_MemOk_l0_ok PM.std (spec_l1In PM.std) (spec_l3Val PM.std) n _ _ _ K).symm.trans h
      · cases h⟩
      ((spec_MemOk_ok PM.std (spec_l1In PM.std) (spec_l3Val PM.std) _ _ k).trans h)
  · cases h

abbrev spec_l3Cell_T := (Int) → ((Bool) → PM.R) → PM.R
noncomputable def spec_l3Cell_w (c : spec_l3Cell_T) (ds : List PM.V) (k : PM.V → PM.R) : PM.R :=
  match ds with
  | [.int .i64 i] => c i (fun r0 => k (.bool r0))
  | _ => none
noncomputable def spec_l3Cell_f (A : PM.Prims) (c_94 : spec_l1In_T) (i : Int) (k : (Bool) → PM.R) : PM.R :=
  c_94 i 0 7 (fun r1 =>
    k r1)
noncomputable def spec_l3Cell (A : PM.Prims) : spec_l3Cell_T := spec_l3Cell_f A (spec_l1In A)
noncomputable def spec_l3Cell_L (A : PM.Prims) (c_94 : spec_l1In_T) (n : Nat) : PM.Lam := fun cur σ K =>
  match cur, σ, K with
  | _, _, _ => none
noncomputable def spec_l3Cell_E (A : PM.Prims) (c_94 : spec_l1In_T) : PM.Env := ⟨[(94, ⟨[], spec_l1In_w c_94, none⟩)], [], [], [(0, [0]), (1, [2])], spec_l3Cell_L A c_94 A.fuel⟩
theorem spec_l3Cell_ok (A : PM.Prims) (c_94 : spec_l1In_T) (i : Int) (k : PM.V → PM.R) : PM.pfun A cx [] (spec_l3Cell_E A c_94) Go.Proofs.Try.f93 [.int .i64 i] k = spec_l3Cell_f A c_94 i (fun r0 => k (.bool r0)) := by kernel_rfl

theorem spec_l3Cell_fn : PM.FnIs Try.prog 93 Try.f93 := .of Try.func93 (by kernel_rfl) (by kernel_rfl)
theorem spec_l3Cell_g : PM.GOk Try.prog cx 93 ⟨[], spec_l3Cell_w (spec_l3Cell PM.std), none⟩ := by
  refine ⟨spec_l3Cell_fn.enter, fun _ ds k r h => ?_, fun hm => absurd rfl hm, fun _ e => (by cases e)⟩
  change spec_l3Cell_w (spec_l3Cell PM.std) ds k = some r at h
  unfold spec_l3Cell_w at h
  split at h
  · exact PM.pfun_ok (E := spec_l3Cell_E PM.std (spec_l1In PM.std)) (L := fun n => spec_l3Cell_L PM.std (spec_l1In PM.std) n) (N := PM.std.fuel) cx_ok (.cons spec_l1In_g .nil) mixed .nil spec_l3Cell_fn (by kernel_rfl) ⟨rfl, fun _ _ _ => rfl, fun n cur σ K r h => by cases h⟩
      ((spec_l3Cell_ok PM.std (spec_l1In PM.std) _ k).trans h)
  · cases h

abbrev spec_ProbeOk_T := (Int) → (Int) → (Int) → (Int) → ((Bool) → PM.R) → PM.R
noncomputable def spec_ProbeOk_w (c : spec_ProbeOk_T) (ds : List PM.V) (k : PM.V → PM.R) : PM.R :=
  match ds with
  | [.agg [.int .i64 p_Cell, .int .i64 p_Phase, .int .i64 p_Ver, .int .i64 p_Val]] => c p_Cell p_Phase p_Ver p_Val (fun r0 => k (.bool r0))
  | _ => none
noncomputable def spec_ProbeOk_f (A : PM.Prims) (c_94 : spec_l1In_T) (c_95 : spec_l3Val_T) (c_93 : spec_l3Cell_T) (p_Cell : Int) (p_Phase : Int) (p_Ver : Int) (p_Val : Int) (k : (Bool) → PM.R) : PM.R :=
  c_93 p_Cell (fun r1 =>
    bif r1 then
      c_94 p_Phase 0 4 (fun r2 =>
        bif r2 then
          c_94 p_Ver 0 1000000 (fun r3 =>
            bif r3 then
              c_95 p_Val (fun r4 =>
                k r4)
            else
              k false)
        else
          k false)
    else
      k false)
noncomputable def spec_ProbeOk (A : PM.Prims) : spec_ProbeOk_T := spec_ProbeOk_f A (spec_l1In A) (spec_l3Val A) (spec_l3Cell A)
noncomputable def spec_ProbeOk_L (A : PM.Prims) (c_94 : spec_l1In_T) (c_95 : spec_l3Val_T) (c_93 : spec_l3Cell_T) (n : Nat) : PM.Lam := fun cur σ K =>
  match cur, σ, K with
  | _, _, _ => none
noncomputable def spec_ProbeOk_E (A : PM.Prims) (c_94 : spec_l1In_T) (c_95 : spec_l3Val_T) (c_93 : spec_l3Cell_T) : PM.Env := ⟨[(94, ⟨[], spec_l1In_w c_94, none⟩), (95, ⟨[], spec_l3Val_w c_95, none⟩), (93, ⟨[], spec_l3Cell_w c_93, none⟩)], [], [], [(0, [1]), (1, [2])], spec_ProbeOk_L A c_94 c_95 c_93 A.fuel⟩
theorem spec_ProbeOk_ok (A : PM.Prims) (c_94 : spec_l1In_T) (c_95 : spec_l3Val_T) (c_93 : spec_l3Cell_T) (p_Cell : Int) (p_Phase : Int) (p_Ver : Int) (p_Val : Int) (k : PM.V → PM.R) : PM.pfun A cx [] (spec_ProbeOk_E A c_94 c_95 c_93) Go.Proofs.Try.f22 [.agg [.int .i64 p_Cell, .int .i64 p_Phase, .int .i64 p_Ver, .int .i64 p_Val]] k = spec_ProbeOk_f A c_94 c_95 c_93 p_Cell p_Phase p_Ver p_Val (fun r0 => k (.bool r0)) := by kernel_rfl

theorem spec_ProbeOk_fn : PM.FnIs Try.prog 22 Try.f22 := .of Try.func22 (by kernel_rfl) (by kernel_rfl)
theorem spec_ProbeOk_g : PM.GOk Try.prog cx 22 ⟨[], spec_ProbeOk_w (spec_ProbeOk PM.std), none⟩ := by
  refine ⟨spec_ProbeOk_fn.enter, fun _ ds k r h => ?_, fun hm => absurd rfl hm, fun _ e => (by cases e)⟩
  change spec_ProbeOk_w (spec_ProbeOk PM.std) ds k = some r at h
  unfold spec_ProbeOk_w at h
  split at h
  · exact PM.pfun_ok (E := spec_ProbeOk_E PM.std (spec_l1In PM.std) (spec_l3Val PM.std) (spec_l3Cell PM.std)) (L := fun n => spec_ProbeOk_L PM.std (spec_l1In PM.std) (spec_l3Val PM.std) (spec_l3Cell PM.std) n) (N := PM.std.fuel) cx_ok (.cons spec_l1In_g (.cons spec_l3Val_g (.cons spec_l3Cell_g .nil))) mixed .nil spec_ProbeOk_fn (by kernel_rfl) ⟨rfl, fun _ _ _ => rfl, fun n cur σ K r h => by cases h⟩
      ((spec_ProbeOk_ok PM.std (spec_l1In PM.std) (spec_l3Val PM.std) (spec_l3Cell PM.std) _ _ _ _ k).trans h)
  · cases h

abbrev spec_ProbeStep_T := (Int) → (List (List Int)) → (Int) → (Int) → (Int) → (Int) → (Int) → ((Int) → (Int) → (Int) → (Int) → PM.R) → PM.R
noncomputable def spec_ProbeStep_w (c : spec_ProbeStep_T) (ds : List PM.V) (k : PM.V → PM.R) : PM.R :=
  match ds with
  | [.agg [.int .i64 m_Clock, .arr (.vecs 49 3 m_Cells)], .int .i64 rv, .agg [.int .i64 p_Cell, .int .i64 p_Phase, .int .i64 p_Ver, .int .i64 p_Val]] => c m_Clock m_Cells rv p_Cell p_Phase p_Ver p_Val (fun r0_Cell r0_Phase r0_Ver r0_Val => k (.agg [.int .i64 r0_Cell, .int .i64 r0_Phase, .int .i64 r0_Ver, .int .i64 r0_Val]))
  | _ => none
noncomputable def spec_ProbeStep_f (A : PM.Prims) (c_35 : spec_MemOk_T) (c_22 : spec_ProbeOk_T) (m_Clock : Int) (m_Cells : List (List Int)) (rv : Int) (p_Cell : Int) (p_Phase : Int) (p_Ver : Int) (p_Val : Int) (k : (Int) → (Int) → (Int) → (Int) → PM.R) : PM.R :=
  c_35 m_Clock m_Cells (fun r1 =>
    bif (A.not r1) then
      k p_Cell p_Phase p_Ver p_Val
    else
      c_22 p_Cell p_Phase p_Ver p_Val (fun r2 =>
        bif (A.not r2) then
          k p_Cell p_Phase p_Ver p_Val
        else
          bif (A.inb p_Cell (A.vlen m_Cells)) then
            bif (A.eq p_Phase 0) then
              bif (A.not (A.eq (A.vget m_Cells p_Cell 2) 0)) then
                k p_Cell 4 p_Ver p_Val
              else
                bif (A.lt rv (A.vget m_Cells p_Cell 1)) then
                  k p_Cell 4 p_Ver p_Val
                else
                  k p_Cell 1 (A.vget m_Cells p_Cell 1) p_Val
            else
              bif (A.eq p_Phase 1) then
                k p_Cell 2 p_Ver (A.vget m_Cells p_Cell 0)
              else
                bif (A.eq p_Phase 2) then
                  bif (A.not (A.eq (A.vget m_Cells p_Cell 2) 0)) then
                    k p_Cell 4 p_Ver p_Val
                  else
                    bif (A.not (A.eq (A.vget m_Cells p_Cell 1) p_Ver)) then
                      k p_Cell 4 p_Ver p_Val
                    else
                      k p_Cell 3 p_Ver p_Val
                else
                  k p_Cell p_Phase p_Ver p_Val
          else
            none))
noncomputable def spec_ProbeStep (A : PM.Prims) : spec_ProbeStep_T := spec_ProbeStep_f A (spec_MemOk A) (spec_ProbeOk A)
noncomputable def spec_ProbeStep_L (A : PM.Prims) (c_35 : spec_MemOk_T) (c_22 : spec_ProbeOk_T) (n : Nat) : PM.Lam := fun cur σ K =>
  match cur, σ, K with
  | _, _, _ => none
noncomputable def spec_ProbeStep_E (A : PM.Prims) (c_35 : spec_MemOk_T) (c_22 : spec_ProbeOk_T) : PM.Env := ⟨[(35, ⟨[], spec_MemOk_w c_35, none⟩), (22, ⟨[], spec_ProbeOk_w c_22, none⟩)], [], [], [(0, [1, 3, 5, 6]), (1, [1, 3, 5, 6, 15]), (2, [6]), (3, [1, 5, 6, 7]), (4, [1, 5, 6, 7, 24]), (5, [1, 5, 6, 7, 24, 25]), (6, [5, 6, 7, 35]), (7, [5, 6]), (8, [6]), (9, [5, 6]), (10, [5, 6]), (11, [5, 6, 7, 24, 42]), (12, [5, 6]), (13, [5, 6]), (14, [5, 6, 7, 48]), (15, [5, 6, 7]), (16, [5, 6, 60]), (17, [5, 6]), (18, [6])], spec_ProbeStep_L A c_35 c_22 A.fuel⟩
theorem spec_ProbeStep_ok (A : PM.Prims) (c_35 : spec_MemOk_T) (c_22 : spec_ProbeOk_T) (m_Clock : Int) (m_Cells : List (List Int)) (rv : Int) (p_Cell : Int) (p_Phase : Int) (p_Ver : Int) (p_Val : Int) (k : PM.V → PM.R) : PM.pfun A cx [] (spec_ProbeStep_E A c_35 c_22) Go.Proofs.Try.f29 [.agg [.int .i64 m_Clock, .arr (.vecs 49 3 m_Cells)], .int .i64 rv, .agg [.int .i64 p_Cell, .int .i64 p_Phase, .int .i64 p_Ver, .int .i64 p_Val]] k = spec_ProbeStep_f A c_35 c_22 m_Clock m_Cells rv p_Cell p_Phase p_Ver p_Val (fun r0_Cell r0_Phase r0_Ver r0_Val => k (.agg [.int .i64 r0_Cell, .int .i64 r0_Phase, .int .i64 r0_Ver, .int .i64 r0_Val])) := by kernel_rfl

theorem spec_ProbeStep_fn : PM.FnIs Try.prog 29 Try.f29 := .of Try.func29 (by kernel_rfl) (by kernel_rfl)
theorem spec_ProbeStep_g : PM.GOk Try.prog cx 29 ⟨[], spec_ProbeStep_w (spec_ProbeStep PM.std), none⟩ := by
  refine ⟨spec_ProbeStep_fn.enter, fun _ ds k r h => ?_, fun hm => absurd rfl hm, fun _ e => (by cases e)⟩
  change spec_ProbeStep_w (spec_ProbeStep PM.std) ds k = some r at h
  unfold spec_ProbeStep_w at h
  split at h
  · exact PM.pfun_ok (E := spec_ProbeStep_E PM.std (spec_MemOk PM.std) (spec_ProbeOk PM.std)) (L := fun n => spec_ProbeStep_L PM.std (spec_MemOk PM.std) (spec_ProbeOk PM.std) n) (N := PM.std.fuel) cx_ok (.cons spec_MemOk_g (.cons spec_ProbeOk_g .nil)) mixed .nil spec_ProbeStep_fn (by kernel_rfl) ⟨rfl, fun _ _ _ => rfl, fun n cur σ K r h => by cases h⟩
      ((spec_ProbeStep_ok PM.std (spec_MemOk PM.std) (spec_ProbeOk PM.std) _ _ _ _ _ _ _ k).trans h)
  · cases h

abbrev impl_within_T := (Int) → (Int) → (Int) → ((Bool) → PM.R) → PM.R
noncomputable def impl_within_w (c : impl_within_T) (ds : List PM.V) (k : PM.V → PM.R) : PM.R :=
  match ds with
  | [.int .i64 x, .int .i64 lo, .int .i64 hi] => c x lo hi (fun r0 => k (.bool r0))
  | _ => none
noncomputable def impl_within_f (A : PM.Prims) (x : Int) (lo : Int) (hi : Int) (k : (Bool) → PM.R) : PM.R :=
  bif (A.le lo x) then
    k (A.le x hi)
  else
    k false
noncomputable def impl_within (A : PM.Prims) : impl_within_T := impl_within_f A
noncomputable def impl_within_L (A : PM.Prims) (n : Nat) : PM.Lam := fun cur σ K =>
  match cur, σ, K with
  | _, _, _ => none
noncomputable def impl_within_E (A : PM.Prims) : PM.Env := ⟨[], [], [], [(0, [0, 1, 2]), (1, [6])], impl_within_L A A.fuel⟩
theorem impl_within_ok (A : PM.Prims) (x : Int) (lo : Int) (hi : Int) (k : PM.V → PM.R) : PM.pfun A cx [] (impl_within_E A) Go.Proofs.Try.f97 [.int .i64 x, .int .i64 lo, .int .i64 hi] k = impl_within_f A x lo hi (fun r0 => k (.bool r0)) := by kernel_rfl

theorem impl_within_fn : PM.FnIs Try.prog 97 Try.f97 := .of Try.func97 (by kernel_rfl) (by kernel_rfl)
theorem impl_within_g : PM.GOk Try.prog cx 97 ⟨[], impl_within_w (impl_within PM.std), none⟩ := by
  refine ⟨impl_within_fn.enter, fun _ ds k r h => ?_, fun hm => absurd rfl hm, fun _ e => (by cases e)⟩
  change impl_within_w (impl_within PM.std) ds k = some r at h
  unfold impl_within_w at h
  split at h
  · exact PM.pfun_ok (E := impl_within_E PM.std) (L := fun n => impl_within_L PM.std n) (N := PM.std.fuel) cx_ok .nil mixed .nil impl_within_fn (by kernel_rfl) ⟨rfl, fun _ _ _ => rfl, fun n cur σ K r h => by cases h⟩
      ((impl_within_ok PM.std _ _ _ k).trans h)
  · cases h

abbrev impl_isValue_T := (Int) → ((Bool) → PM.R) → PM.R
noncomputable def impl_isValue_w (c : impl_isValue_T) (ds : List PM.V) (k : PM.V → PM.R) : PM.R :=
  match ds with
  | [.int .i64 v] => c v (fun r0 => k (.bool r0))
  | _ => none
noncomputable def impl_isValue_f (A : PM.Prims) (c_97 : impl_within_T) (v : Int) (k : (Bool) → PM.R) : PM.R :=
  c_97 v 0 65535 (fun r1 =>
    k r1)
noncomputable def impl_isValue (A : PM.Prims) : impl_isValue_T := impl_isValue_f A (impl_within A)
noncomputable def impl_isValue_L (A : PM.Prims) (c_97 : impl_within_T) (n : Nat) : PM.Lam := fun cur σ K =>
  match cur, σ, K with
  | _, _, _ => none
noncomputable def impl_isValue_E (A : PM.Prims) (c_97 : impl_within_T) : PM.Env := ⟨[(97, ⟨[], impl_within_w c_97, none⟩)], [], [], [(0, [0]), (1, [2])], impl_isValue_L A c_97 A.fuel⟩
theorem impl_isValue_ok (A : PM.Prims) (c_97 : impl_within_T) (v : Int) (k : PM.V → PM.R) : PM.pfun A cx [] (impl_isValue_E A c_97) Go.Proofs.Try.f98 [.int .i64 v] k = impl_isValue_f A c_97 v (fun r0 => k (.bool r0)) := by kernel_rfl

theorem impl_isValue_fn : PM.FnIs Try.prog 98 Try.f98 := .of Try.func98 (by kernel_rfl) (by kernel_rfl)
theorem impl_isValue_g : PM.GOk Try.prog cx 98 ⟨[], impl_isValue_w (impl_isValue PM.std), none⟩ := by
  refine ⟨impl_isValue_fn.enter, fun _ ds k r h => ?_, fun hm => absurd rfl hm, fun _ e => (by cases e)⟩
  change impl_isValue_w (impl_isValue PM.std) ds k = some r at h
  unfold impl_isValue_w at h
  split at h
  · exact PM.pfun_ok (E := impl_isValue_E PM.std (impl_within PM.std)) (L := fun n => impl_isValue_L PM.std (impl_within PM.std) n) (N := PM.std.fuel) cx_ok (.cons impl_within_g .nil) mixed .nil impl_isValue_fn (by kernel_rfl) ⟨rfl, fun _ _ _ => rfl, fun n cur σ K r h => by cases h⟩
      ((impl_isValue_ok PM.std (impl_within PM.std) _ k).trans h)
  · cases h

abbrev impl_MemOk_T := (Int) → (List (List Int)) → ((Bool) → PM.R) → PM.R
noncomputable def impl_MemOk_w (c : impl_MemOk_T) (ds : List PM.V) (k : PM.V → PM.R) : PM.R :=
  match ds with
  | [.agg [.int .i64 m_Clock, .arr (.vecs 49 3 m_Cells)]] => c m_Clock m_Cells (fun r0 => k (.bool r0))
  | _ => none
noncomputable def impl_MemOk_l0 (A : PM.Prims) (c_97 : impl_within_T) (c_98 : impl_isValue_T) : Nat → (List (List Int)) → (Int) → (Int) → (Int) → (List (List Int)) → ((Bool) → PM.R) → ((Int) → (List (List Int)) → PM.R) → PM.R
  | 0, _, _, _, _, _, _, _ => none
  | n + 1, t61, t72, t83, o04, o05, kret_0, kx0_0 =>
    bif (A.lt t83 t72) then
      bif (A.inb t83 (A.vlen t61)) then
        c_98 (A.vget t61 t83 0) (fun r6 =>
          bif (A.not r6) then
            kret_0 false
          else
            c_97 (A.vget t61 t83 1) 0 o04 (fun r8 =>
              bif (A.not r8) then
                kret_0 false
              else
                c_97 (A.vget t61 t83 2) 0 99 (fun r9 =>
                  bif (A.not r9) then
                    kret_0 false
                  else
                    impl_MemOk_l0 A c_97 c_98 n t61 t72 (A.add .i64 t83 1) o04 o05 kret_0 kx0_0)))
      else
        none
    else
      kx0_0 o04 o05
noncomputable def impl_MemOk_f (A : PM.Prims) (c_97 : impl_within_T) (c_98 : impl_isValue_T) (m_Clock : Int) (m_Cells : List (List Int)) (k : (Bool) → PM.R) : PM.R :=
  impl_MemOk_l0 A c_97 c_98 A.fuel m_Cells (A.vlen m_Cells) 0 m_Clock m_Cells (fun t2712 =>
    k t2712) (fun o01013 o01114 =>
    bif (A.eq (A.vlen o01114) 8) then
      c_97 o01013 0 1000000 (fun r15 =>
        k r15)
    else
      k false)
noncomputable def impl_MemOk (A : PM.Prims) : impl_MemOk_T := impl_MemOk_f A (impl_within A) (impl_isValue A)
noncomputable def impl_MemOk_L (A : PM.Prims) (c_97 : impl_within_T) (c_98 : impl_isValue_T) (n : Nat) : PM.Lam := fun cur σ K =>
  match cur, σ, K with
  | 0, ⟨[(1, .pbox 0 0), (6, .arr (.vecs 49 3 t61)), (7, .int .i64 t72), (8, .int .i64 t83)], [(0, .box [.int .i64 o04, .arr (.vecs 49 3 o05)])]⟩, K => impl_MemOk_l0 A c_97 c_98 n t61 t72 t83 o04 o05 (fun t27 => K .ret ⟨[(2, .bool t27)], []⟩) (fun o010 o011 => K (.exit 0) ⟨[(1, .pbox 0 0)], [(0, .box [.int .i64 o010, .arr (.vecs 49 3 o011)])]⟩)
  | _, _, _ => none
noncomputable def impl_MemOk_E (A : PM.Prims) (c_97 : impl_within_T) (c_98 : impl_isValue_T) : PM.Env := ⟨[(97, ⟨[], impl_within_w c_97, none⟩), (98, ⟨[], impl_isValue_w c_98, none⟩)], [], [(0, [1, 6, 7, 8], [1, 2])], [(0, [1]), (1, [1, 6, 7, 8]), (2, [1, 6, 7, 8, 9]), (3, [1, 4, 6, 7, 8]), (4, [1, 6, 7, 8, 29]), (5, [2]), (6, [1, 6, 7, 8]), (7, [2])], impl_MemOk_L A c_97 c_98 A.fuel⟩
theorem impl_MemOk_l0_ok (A : PM.Prims) (c_97 : impl_within_T) (c_98 : impl_isValue_T) (n : Nat) (t61 : List (List Int)) (t72 : Int) (t83 : Int) (o04 : Int) (o05 : List (List Int)) (K : Go.Exit → PM.S → PM.R) : impl_MemOk_L A c_97 c_98 (n + 1) 0 ⟨[(1, .pbox 0 0), (6, .arr (.vecs 49 3 t61)), (7, .int .i64 t72), (8, .int .i64 t83)], [(0, .box [.int .i64 o04, .arr (.vecs 49 3 o05)])]⟩ K = PM.roundF A cx (PM.runD A cx (impl_MemOk_E A c_97 c_98).inl (impl_MemOk_E A c_97 c_98).Γ 3) (impl_MemOk_E A c_97 c_98) (impl_MemOk_L A c_97 c_98 n) 0 Go.Proofs.Try.f101 ⟨[(1, .pbox 0 0), (6, .arr (.vecs 49 3 t61)), (7, .int .i64 t72), (8, .int .i64 t83)], [(0, .box [.int .i64 o04, .arr (.vecs 49 3 o05)])]⟩ K := by kernel_rfl
theorem impl_MemOk_ok (A : PM.Prims) (c_97 : impl_within_T) (c_98 : impl_isValue_T) (m_Clock : Int) (m_Cells : List (List Int)) (k : PM.V → PM.R) : PM.pfun A cx [] (impl_MemOk_E A c_97 c_98) Go.Proofs.Try.f101 [.agg [.int .i64 m_Clock, .arr (.vecs 49 3 m_Cells)]] k = impl_MemOk_f A c_97 c_98 m_Clock m_Cells (fun r0 => k (.bool r0)) := by kernel_rfl

theorem impl_MemOk_fn : PM.FnIs Try.prog 101 Try.f101 := .of Try.func101 (by kernel_rfl) (by kernel_rfl)
theorem impl_MemOk_g : PM.GOk Try.prog cx 101 ⟨[], impl_MemOk_w (impl_MemOk PM.std), none⟩ := by
  refine ⟨impl_MemOk_fn.enter, fun _ ds k r h => ?_, fun hm => absurd rfl hm, fun _ e => (by cases e)⟩
  change impl_MemOk_w (impl_MemOk PM.std) ds k = some r at h
  unfold impl_MemOk_w at h
  split at h
  · exact PM.pfun_ok (E := impl_MemOk_E PM.std (impl_within PM.std) (impl_isValue PM.std)) (L := fun n => impl_MemOk_L PM.std (impl_within PM.std) (impl_isValue PM.std) n) (N := PM.std.fuel) cx_ok (.cons impl_within_g (.cons impl_isValue_g .nil)) mixed .nil impl_MemOk_fn (by kernel_rfl) ⟨rfl, fun cur σ K => by
      dsimp only [impl_MemOk_L]
      split <;> rfl, fun n cur σ K r h => by
      dsimp only [impl_MemOk_L] at h
      split at h
      · exact (impl_MemOk_l0_ok PM.std (impl_within PM.std) (impl_isValue PM.std) n _ _ _ _ _ K).symm.trans h
      · cases h⟩
      ((impl_MemOk_ok PM.std (impl_within PM.std) (impl_isValue PM.std) _ _ k).trans h)
  · cases h

abbrev impl_isCell_T := (Int) → ((Bool) → PM.R) → PM.R
noncomputable def impl_isCell_w (c : impl_isCell_T) (ds : List PM.V) (k : PM.V → PM.R) : PM.R :=
  match ds with
  | [.int .i64 i] => c i (fun r0 => k (.bool r0))
  | _ => none
noncomputable def impl_isCell_f (A : PM.Prims) (c_97 : impl_within_T) (i : Int) (k : (Bool) → PM.R) : PM.R :=
  c_97 i 0 7 (fun r1 =>
    k r1)
noncomputable def impl_isCell (A : PM.Prims) : impl_isCell_T := impl_isCell_f A (impl_within A)
noncomputable def impl_isCell_L (A : PM.Prims) (c_97 : impl_within_T) (n : Nat) : PM.Lam := fun cur σ K =>
  match cur, σ, K with
  | _, _, _ => none
noncomputable def impl_isCell_E (A : PM.Prims) (c_97 : impl_within_T) : PM.Env := ⟨[(97, ⟨[], impl_within_w c_97, none⟩)], [], [], [(0, [0]), (1, [2])], impl_isCell_L A c_97 A.fuel⟩
theorem impl_isCell_ok (A : PM.Prims) (c_97 : impl_within_T) (i : Int) (k : PM.V → PM.R) : PM.pfun A cx [] (impl_isCell_E A c_97) Go.Proofs.Try.f96 [.int .i64 i] k = impl_isCell_f A c_97 i (fun r0 => k (.bool r0)) := by kernel_rfl

theorem impl_isCell_fn : PM.FnIs Try.prog 96 Try.f96 := .of Try.func96 (by kernel_rfl) (by kernel_rfl)
theorem impl_isCell_g : PM.GOk Try.prog cx 96 ⟨[], impl_isCell_w (impl_isCell PM.std), none⟩ := by
  refine ⟨impl_isCell_fn.enter, fun _ ds k r h => ?_, fun hm => absurd rfl hm, fun _ e => (by cases e)⟩
  change impl_isCell_w (impl_isCell PM.std) ds k = some r at h
  unfold impl_isCell_w at h
  split at h
  · exact PM.pfun_ok (E := impl_isCell_E PM.std (impl_within PM.std)) (L := fun n => impl_isCell_L PM.std (impl_within PM.std) n) (N := PM.std.fuel) cx_ok (.cons impl_within_g .nil) mixed .nil impl_isCell_fn (by kernel_rfl) ⟨rfl, fun _ _ _ => rfl, fun n cur σ K r h => by cases h⟩
      ((impl_isCell_ok PM.std (impl_within PM.std) _ k).trans h)
  · cases h

abbrev impl_ProbeOk_T := (Int) → (Int) → (Int) → (Int) → ((Bool) → PM.R) → PM.R
noncomputable def impl_ProbeOk_w (c : impl_ProbeOk_T) (ds : List PM.V) (k : PM.V → PM.R) : PM.R :=
  match ds with
  | [.agg [.int .i64 p_Cell, .int .i64 p_Phase, .int .i64 p_Ver, .int .i64 p_Val]] => c p_Cell p_Phase p_Ver p_Val (fun r0 => k (.bool r0))
  | _ => none
noncomputable def impl_ProbeOk_f (A : PM.Prims) (c_97 : impl_within_T) (c_98 : impl_isValue_T) (c_96 : impl_isCell_T) (p_Cell : Int) (p_Phase : Int) (p_Ver : Int) (p_Val : Int) (k : (Bool) → PM.R) : PM.R :=
  c_96 p_Cell (fun r1 =>
    bif r1 then
      c_97 p_Phase 0 4 (fun r2 =>
        bif r2 then
          c_97 p_Ver 0 1000000 (fun r3 =>
            bif r3 then
              c_98 p_Val (fun r4 =>
                k r4)
            else
              k false)
        else
          k false)
    else
      k false)
noncomputable def impl_ProbeOk (A : PM.Prims) : impl_ProbeOk_T := impl_ProbeOk_f A (impl_within A) (impl_isValue A) (impl_isCell A)
noncomputable def impl_ProbeOk_L (A : PM.Prims) (c_97 : impl_within_T) (c_98 : impl_isValue_T) (c_96 : impl_isCell_T) (n : Nat) : PM.Lam := fun cur σ K =>
  match cur, σ, K with
  | _, _, _ => none
noncomputable def impl_ProbeOk_E (A : PM.Prims) (c_97 : impl_within_T) (c_98 : impl_isValue_T) (c_96 : impl_isCell_T) : PM.Env := ⟨[(97, ⟨[], impl_within_w c_97, none⟩), (98, ⟨[], impl_isValue_w c_98, none⟩), (96, ⟨[], impl_isCell_w c_96, none⟩)], [], [], [(0, [1]), (1, [2])], impl_ProbeOk_L A c_97 c_98 c_96 A.fuel⟩
theorem impl_ProbeOk_ok (A : PM.Prims) (c_97 : impl_within_T) (c_98 : impl_isValue_T) (c_96 : impl_isCell_T) (p_Cell : Int) (p_Phase : Int) (p_Ver : Int) (p_Val : Int) (k : PM.V → PM.R) : PM.pfun A cx [] (impl_ProbeOk_E A c_97 c_98 c_96) Go.Proofs.Try.f24 [.agg [.int .i64 p_Cell, .int .i64 p_Phase, .int .i64 p_Ver, .int .i64 p_Val]] k = impl_ProbeOk_f A c_97 c_98 c_96 p_Cell p_Phase p_Ver p_Val (fun r0 => k (.bool r0)) := by kernel_rfl

theorem impl_ProbeOk_fn : PM.FnIs Try.prog 24 Try.f24 := .of Try.func24 (by kernel_rfl) (by kernel_rfl)
theorem impl_ProbeOk_g : PM.GOk Try.prog cx 24 ⟨[], impl_ProbeOk_w (impl_ProbeOk PM.std), none⟩ := by
  refine ⟨impl_ProbeOk_fn.enter, fun _ ds k r h => ?_, fun hm => absurd rfl hm, fun _ e => (by cases e)⟩
  change impl_ProbeOk_w (impl_ProbeOk PM.std) ds k = some r at h
  unfold impl_ProbeOk_w at h
  split at h
  · exact PM.pfun_ok (E := impl_ProbeOk_E PM.std (impl_within PM.std) (impl_isValue PM.std) (impl_isCell PM.std)) (L := fun n => impl_ProbeOk_L PM.std (impl_within PM.std) (impl_isValue PM.std) (impl_isCell PM.std) n) (N := PM.std.fuel) cx_ok (.cons impl_within_g (.cons impl_isValue_g (.cons impl_isCell_g .nil))) mixed .nil impl_ProbeOk_fn (by kernel_rfl) ⟨rfl, fun _ _ _ => rfl, fun n cur σ K r h => by cases h⟩
      ((impl_ProbeOk_ok PM.std (impl_within PM.std) (impl_isValue PM.std) (impl_isCell PM.std) _ _ _ _ k).trans h)
  · cases h

abbrev impl_ProbeStep_T := (Int) → (List (List Int)) → (Int) → (Int) → (Int) → (Int) → (Int) → ((Int) → (Int) → (Int) → (Int) → PM.R) → PM.R
noncomputable def impl_ProbeStep_w (c : impl_ProbeStep_T) (ds : List PM.V) (k : PM.V → PM.R) : PM.R :=
  match ds with
  | [.agg [.int .i64 m_Clock, .arr (.vecs 49 3 m_Cells)], .int .i64 rv, .agg [.int .i64 p_Cell, .int .i64 p_Phase, .int .i64 p_Ver, .int .i64 p_Val]] => c m_Clock m_Cells rv p_Cell p_Phase p_Ver p_Val (fun r0_Cell r0_Phase r0_Ver r0_Val => k (.agg [.int .i64 r0_Cell, .int .i64 r0_Phase, .int .i64 r0_Ver, .int .i64 r0_Val]))
  | _ => none
noncomputable def impl_ProbeStep_f (A : PM.Prims) (c_101 : impl_MemOk_T) (c_24 : impl_ProbeOk_T) (m_Clock : Int) (m_Cells : List (List Int)) (rv : Int) (p_Cell : Int) (p_Phase : Int) (p_Ver : Int) (p_Val : Int) (k : (Int) → (Int) → (Int) → (Int) → PM.R) : PM.R :=
  c_101 m_Clock m_Cells (fun r1 =>
    bif (A.not r1) then
      k p_Cell p_Phase p_Ver p_Val
    else
      c_24 p_Cell p_Phase p_Ver p_Val (fun r2 =>
        bif (A.not r2) then
          k p_Cell p_Phase p_Ver p_Val
        else
          bif (A.inb p_Cell (A.vlen m_Cells)) then
            bif (A.eq p_Phase 0) then
              bif (A.eq (A.vget m_Cells p_Cell 2) 0) then
                bif (A.le (A.vget m_Cells p_Cell 1) rv) then
                  k p_Cell 1 (A.vget m_Cells p_Cell 1) p_Val
                else
                  k p_Cell 4 p_Ver p_Val
              else
                k p_Cell 4 p_Ver p_Val
            else
              bif (A.eq p_Phase 1) then
                k p_Cell 2 p_Ver (A.vget m_Cells p_Cell 0)
              else
                bif (A.eq p_Phase 2) then
                  bif (A.eq (A.vget m_Cells p_Cell 2) 0) then
                    bif (A.eq (A.vget m_Cells p_Cell 1) p_Ver) then
                      k p_Cell 3 p_Ver p_Val
                    else
                      k p_Cell 4 p_Ver p_Val
                  else
                    k p_Cell 4 p_Ver p_Val
                else
                  k p_Cell p_Phase p_Ver p_Val
          else
            none))
noncomputable def impl_ProbeStep (A : PM.Prims) : impl_ProbeStep_T := impl_ProbeStep_f A (impl_MemOk A) (impl_ProbeOk A)
noncomputable def impl_ProbeStep_L (A : PM.Prims) (c_101 : impl_MemOk_T) (c_24 : impl_ProbeOk_T) (n : Nat) : PM.Lam := fun cur σ K =>
  match cur, σ, K with
  | _, _, _ => none
noncomputable def impl_ProbeStep_E (A : PM.Prims) (c_101 : impl_MemOk_T) (c_24 : impl_ProbeOk_T) : PM.Env := ⟨[(101, ⟨[], impl_MemOk_w c_101, none⟩), (24, ⟨[], impl_ProbeOk_w c_24, none⟩)], [], [], [(0, [1, 3, 5, 6]), (1, [1, 3, 5, 6, 15]), (2, [6]), (3, [1, 5, 6, 7]), (4, [1, 5, 6, 7, 24]), (5, [1, 5, 6, 7, 24, 25]), (6, [1, 5, 6, 7]), (7, [5, 6, 7, 36]), (8, [5, 6]), (9, [5, 6]), (10, [5, 6, 7, 24, 41]), (11, [5, 6]), (12, [5, 6]), (13, [5, 6, 7, 47]), (14, [5, 6, 7]), (15, [5, 6, 59]), (16, [5, 6]), (17, [6])], impl_ProbeStep_L A c_101 c_24 A.fuel⟩
theorem impl_ProbeStep_ok (A : PM.Prims) (c_101 : impl_MemOk_T) (c_24 : impl_ProbeOk_T) (m_Clock : Int) (m_Cells : List (List Int)) (rv : Int) (p_Cell : Int) (p_Phase : Int) (p_Ver : Int) (p_Val : Int) (k : PM.V → PM.R) : PM.pfun A cx [] (impl_ProbeStep_E A c_101 c_24) Go.Proofs.Try.f31 [.agg [.int .i64 m_Clock, .arr (.vecs 49 3 m_Cells)], .int .i64 rv, .agg [.int .i64 p_Cell, .int .i64 p_Phase, .int .i64 p_Ver, .int .i64 p_Val]] k = impl_ProbeStep_f A c_101 c_24 m_Clock m_Cells rv p_Cell p_Phase p_Ver p_Val (fun r0_Cell r0_Phase r0_Ver r0_Val => k (.agg [.int .i64 r0_Cell, .int .i64 r0_Phase, .int .i64 r0_Ver, .int .i64 r0_Val])) := by kernel_rfl

theorem impl_ProbeStep_fn : PM.FnIs Try.prog 31 Try.f31 := .of Try.func31 (by kernel_rfl) (by kernel_rfl)
theorem impl_ProbeStep_g : PM.GOk Try.prog cx 31 ⟨[], impl_ProbeStep_w (impl_ProbeStep PM.std), none⟩ := by
  refine ⟨impl_ProbeStep_fn.enter, fun _ ds k r h => ?_, fun hm => absurd rfl hm, fun _ e => (by cases e)⟩
  change impl_ProbeStep_w (impl_ProbeStep PM.std) ds k = some r at h
  unfold impl_ProbeStep_w at h
  split at h
  · exact PM.pfun_ok (E := impl_ProbeStep_E PM.std (impl_MemOk PM.std) (impl_ProbeOk PM.std)) (L := fun n => impl_ProbeStep_L PM.std (impl_MemOk PM.std) (impl_ProbeOk PM.std) n) (N := PM.std.fuel) cx_ok (.cons impl_MemOk_g (.cons impl_ProbeOk_g .nil)) mixed .nil impl_ProbeStep_fn (by kernel_rfl) ⟨rfl, fun _ _ _ => rfl, fun n cur σ K r h => by cases h⟩
      ((impl_ProbeStep_ok PM.std (impl_MemOk PM.std) (impl_ProbeOk PM.std) _ _ _ _ _ _ _ k).trans h)
  · cases h

abbrev laws_eqProbe_T := (Int) → (Int) → (Int) → (Int) → (Int) → (Int) → (Int) → (Int) → ((Bool) → PM.R) → PM.R
noncomputable def laws_eqProbe_w (c : laws_eqProbe_T) (ds : List PM.V) (k : PM.V → PM.R) : PM.R :=
  match ds with
  | [.agg [.int .i64 a_Cell, .int .i64 a_Phase, .int .i64 a_Ver, .int .i64 a_Val], .agg [.int .i64 b_Cell, .int .i64 b_Phase, .int .i64 b_Ver, .int .i64 b_Val]] => c a_Cell a_Phase a_Ver a_Val b_Cell b_Phase b_Ver b_Val (fun r0 => k (.bool r0))
  | _ => none
noncomputable def laws_eqProbe_f (A : PM.Prims) (a_Cell : Int) (a_Phase : Int) (a_Ver : Int) (a_Val : Int) (b_Cell : Int) (b_Phase : Int) (b_Ver : Int) (b_Val : Int) (k : (Bool) → PM.R) : PM.R :=
  bif (A.not (A.eq a_Cell b_Cell)) then
    k false
  else
    bif (A.not (A.eq a_Phase b_Phase)) then
      k false
    else
      bif (A.not (A.eq a_Ver b_Ver)) then
        k false
      else
        bif (A.not (A.eq a_Val b_Val)) then
          k false
        else
          k true
noncomputable def laws_eqProbe (A : PM.Prims) : laws_eqProbe_T := laws_eqProbe_f A
noncomputable def laws_eqProbe_L (A : PM.Prims) (n : Nat) : PM.Lam := fun cur σ K =>
  match cur, σ, K with
  | _, _, _ => none
noncomputable def laws_eqProbe_E (A : PM.Prims) : PM.Env := ⟨[], [], [], [(0, [2, 3]), (1, [2, 3, 9]), (2, [4]), (3, [2, 3, 14]), (4, [4]), (5, [2, 3, 19]), (6, [4]), (7, [24]), (8, [4]), (9, [4])], laws_eqProbe_L A A.fuel⟩
theorem laws_eqProbe_ok (A : PM.Prims) (a_Cell : Int) (a_Phase : Int) (a_Ver : Int) (a_Val : Int) (b_Cell : Int) (b_Phase : Int) (b_Ver : Int) (b_Val : Int) (k : PM.V → PM.R) : PM.pfun A cx [] (laws_eqProbe_E A) Go.Proofs.Try.f27 [.agg [.int .i64 a_Cell, .int .i64 a_Phase, .int .i64 a_Ver, .int .i64 a_Val], .agg [.int .i64 b_Cell, .int .i64 b_Phase, .int .i64 b_Ver, .int .i64 b_Val]] k = laws_eqProbe_f A a_Cell a_Phase a_Ver a_Val b_Cell b_Phase b_Ver b_Val (fun r0 => k (.bool r0)) := by kernel_rfl

theorem laws_eqProbe_fn : PM.FnIs Try.prog 27 Try.f27 := .of Try.func27 (by kernel_rfl) (by kernel_rfl)
theorem laws_eqProbe_g : PM.GOk Try.prog cx 27 ⟨[], laws_eqProbe_w (laws_eqProbe PM.std), none⟩ := by
  refine ⟨laws_eqProbe_fn.enter, fun _ ds k r h => ?_, fun hm => absurd rfl hm, fun _ e => (by cases e)⟩
  change laws_eqProbe_w (laws_eqProbe PM.std) ds k = some r at h
  unfold laws_eqProbe_w at h
  split at h
  · exact PM.pfun_ok (E := laws_eqProbe_E PM.std) (L := fun n => laws_eqProbe_L PM.std n) (N := PM.std.fuel) cx_ok .nil mixed .nil laws_eqProbe_fn (by kernel_rfl) ⟨rfl, fun _ _ _ => rfl, fun n cur σ K r h => by cases h⟩
      ((laws_eqProbe_ok PM.std _ _ _ _ _ _ _ _ k).trans h)
  · cases h

abbrev laws_eqWord_T := (Int) → (Int) → (Int) → (Int) → (Int) → (Int) → ((Bool) → PM.R) → PM.R
noncomputable def laws_eqWord_w (c : laws_eqWord_T) (ds : List PM.V) (k : PM.V → PM.R) : PM.R :=
  match ds with
  | [.agg [.int .i64 a_Val, .int .i64 a_Ver, .int .i64 a_Owner], .agg [.int .i64 b_Val, .int .i64 b_Ver, .int .i64 b_Owner]] => c a_Val a_Ver a_Owner b_Val b_Ver b_Owner (fun r0 => k (.bool r0))
  | _ => none
noncomputable def laws_eqWord_f (A : PM.Prims) (a_Val : Int) (a_Ver : Int) (a_Owner : Int) (b_Val : Int) (b_Ver : Int) (b_Owner : Int) (k : (Bool) → PM.R) : PM.R :=
  bif (A.not (A.eq a_Val b_Val)) then
    k false
  else
    bif (A.not (A.eq a_Ver b_Ver)) then
      k false
    else
      bif (A.not (A.eq a_Owner b_Owner)) then
        k false
      else
        k true
noncomputable def laws_eqWord (A : PM.Prims) : laws_eqWord_T := laws_eqWord_f A
noncomputable def laws_eqWord_L (A : PM.Prims) (n : Nat) : PM.Lam := fun cur σ K =>
  match cur, σ, K with
  | _, _, _ => none
noncomputable def laws_eqWord_E (A : PM.Prims) : PM.Env := ⟨[], [], [], [(0, [2, 3]), (1, [2, 3, 9]), (2, [4]), (3, [2, 3, 14]), (4, [4]), (5, [19]), (6, [4]), (7, [4])], laws_eqWord_L A A.fuel⟩
theorem laws_eqWord_ok (A : PM.Prims) (a_Val : Int) (a_Ver : Int) (a_Owner : Int) (b_Val : Int) (b_Ver : Int) (b_Owner : Int) (k : PM.V → PM.R) : PM.pfun A cx [] (laws_eqWord_E A) Go.Proofs.Try.f157 [.agg [.int .i64 a_Val, .int .i64 a_Ver, .int .i64 a_Owner], .agg [.int .i64 b_Val, .int .i64 b_Ver, .int .i64 b_Owner]] k = laws_eqWord_f A a_Val a_Ver a_Owner b_Val b_Ver b_Owner (fun r0 => k (.bool r0)) := by kernel_rfl

theorem laws_eqWord_fn : PM.FnIs Try.prog 157 Try.f157 := .of Try.func157 (by kernel_rfl) (by kernel_rfl)
theorem laws_eqWord_g : PM.GOk Try.prog cx 157 ⟨[], laws_eqWord_w (laws_eqWord PM.std), none⟩ := by
  refine ⟨laws_eqWord_fn.enter, fun _ ds k r h => ?_, fun hm => absurd rfl hm, fun _ e => (by cases e)⟩
  change laws_eqWord_w (laws_eqWord PM.std) ds k = some r at h
  unfold laws_eqWord_w at h
  split at h
  · exact PM.pfun_ok (E := laws_eqWord_E PM.std) (L := fun n => laws_eqWord_L PM.std n) (N := PM.std.fuel) cx_ok .nil mixed .nil laws_eqWord_fn (by kernel_rfl) ⟨rfl, fun _ _ _ => rfl, fun n cur σ K r h => by cases h⟩
      ((laws_eqWord_ok PM.std _ _ _ _ _ _ k).trans h)
  · cases h

abbrev laws_eqWordS_T := (List (List Int)) → (List (List Int)) → ((Bool) → PM.R) → PM.R
noncomputable def laws_eqWordS_w (c : laws_eqWordS_T) (ds : List PM.V) (k : PM.V → PM.R) : PM.R :=
  match ds with
  | [.arr (.vecs 49 3 a), .arr (.vecs 49 3 b)] => c a b (fun r0 => k (.bool r0))
  | _ => none
noncomputable def laws_eqWordS_l0 (A : PM.Prims) (c_157 : laws_eqWord_T) : Nat → (List (List Int)) → (List (List Int)) → (Int) → ((Bool) → PM.R) → (Unit → PM.R) → PM.R
  | 0, _, _, _, _, _ => none
  | n + 1, a1, b2, i3, kret_0, kx0_0 =>
    bif (A.lt i3 (A.vlen a1)) then
      bif (A.inb i3 (A.vlen a1)) then
        bif (A.inb i3 (A.vlen b2)) then
          c_157 (A.vget a1 i3 0) (A.vget a1 i3 1) (A.vget a1 i3 2) (A.vget b2 i3 0) (A.vget b2 i3 1) (A.vget b2 i3 2) (fun r4 =>
            bif (A.not r4) then
              kret_0 false
            else
              laws_eqWordS_l0 A c_157 n a1 b2 (A.add .i64 i3 1) kret_0 kx0_0)
        else
          none
      else
        none
    else
      kx0_0 ()
noncomputable def laws_eqWordS_f (A : PM.Prims) (c_157 : laws_eqWord_T) (a : List (List Int)) (b : List (List Int)) (k : (Bool) → PM.R) : PM.R :=
  bif (A.not (A.eq (A.vlen a) (A.vlen b))) then
    k false
  else
    laws_eqWordS_l0 A c_157 A.fuel a b 0 (fun t456 =>
      k t456) (fun _ =>
      k true)
noncomputable def laws_eqWordS (A : PM.Prims) : laws_eqWordS_T := laws_eqWordS_f A (laws_eqWord A)
noncomputable def laws_eqWordS_L (A : PM.Prims) (c_157 : laws_eqWord_T) (n : Nat) : PM.Lam := fun cur σ K =>
  match cur, σ, K with
  | 0, ⟨[(0, .arr (.vecs 49 3 a1)), (1, .arr (.vecs 49 3 b2)), (5, .int .i64 i3)], []⟩, K => laws_eqWordS_l0 A c_157 n a1 b2 i3 (fun t45 => K .ret ⟨[(4, .bool t45)], []⟩) (fun _ => K (.exit 0) ⟨[], []⟩)
  | _, _, _ => none
noncomputable def laws_eqWordS_E (A : PM.Prims) (c_157 : laws_eqWord_T) : PM.Env := ⟨[(157, ⟨[], laws_eqWord_w c_157, none⟩)], [], [(0, [0, 1, 5], [4])], [(0, [0, 1]), (1, [0, 1, 10]), (2, [4]), (3, [0, 1, 5]), (4, [0, 1, 5, 14]), (5, [0, 1, 5]), (6, [0, 1, 5, 26]), (7, [4]), (8, [4])], laws_eqWordS_L A c_157 A.fuel⟩
theorem laws_eqWordS_l0_ok (A : PM.Prims) (c_157 : laws_eqWord_T) (n : Nat) (a1 : List (List Int)) (b2 : List (List Int)) (i3 : Int) (K : Go.Exit → PM.S → PM.R) : laws_eqWordS_L A c_157 (n + 1) 0 ⟨[(0, .arr (.vecs 49 3 a1)), (1, .arr (.vecs 49 3 b2)), (5, .int .i64 i3)], []⟩ K = PM.roundF A cx (PM.runD A cx (laws_eqWordS_E A c_157).inl (laws_eqWordS_E A c_157).Γ 3) (laws_eqWordS_E A c_157) (laws_eqWordS_L A c_157 n) 0 Go.Proofs.Try.f102 ⟨[(0, .arr (.vecs 49 3 a1)), (1, .arr (.vecs 49 3 b2)), (5, .int .i64 i3)], []⟩ K := by kernel_rfl
theorem laws_eqWordS_ok (A : PM.Prims) (c_157 : laws_eqWord_T) (a : List (List Int)) (b : List (List Int)) (k : PM.V → PM.R) : PM.pfun A cx [] (laws_eqWordS_E A c_157) Go.Proofs.Try.f102 [.arr (.vecs 49 3 a), .arr (.vecs 49 3 b)] k = laws_eqWordS_f A c_157 a b (fun r0 => k (.bool r0)) := by kernel_rfl

theorem laws_eqWordS_fn : PM.FnIs Try.prog 102 Try.f102 := .of Try.func102 (by kernel_rfl) (by kernel_rfl)
theorem laws_eqWordS_g : PM.GOk Try.prog cx 102 ⟨[], laws_eqWordS_w (laws_eqWordS PM.std), none⟩ := by
  refine ⟨laws_eqWordS_fn.enter, fun _ ds k r h => ?_, fun hm => absurd rfl hm, fun _ e => (by cases e)⟩
  change laws_eqWordS_w (laws_eqWordS PM.std) ds k = some r at h
  unfold laws_eqWordS_w at h
  split at h
  · exact PM.pfun_ok (E := laws_eqWordS_E PM.std (laws_eqWord PM.std)) (L := fun n => laws_eqWordS_L PM.std (laws_eqWord PM.std) n) (N := PM.std.fuel) cx_ok (.cons laws_eqWord_g .nil) mixed .nil laws_eqWordS_fn (by kernel_rfl) ⟨rfl, fun cur σ K => by
      dsimp only [laws_eqWordS_L]
      split <;> rfl, fun n cur σ K r h => by
      dsimp only [laws_eqWordS_L] at h
      split at h
      · exact (laws_eqWordS_l0_ok PM.std (laws_eqWord PM.std) n _ _ _ K).symm.trans h
      · cases h⟩
      ((laws_eqWordS_ok PM.std (laws_eqWord PM.std) _ _ k).trans h)
  · cases h

abbrev laws_eqMem_T := (Int) → (List (List Int)) → (Int) → (List (List Int)) → ((Bool) → PM.R) → PM.R
noncomputable def laws_eqMem_w (c : laws_eqMem_T) (ds : List PM.V) (k : PM.V → PM.R) : PM.R :=
  match ds with
  | [.agg [.int .i64 a_Clock, .arr (.vecs 49 3 a_Cells)], .agg [.int .i64 b_Clock, .arr (.vecs 49 3 b_Cells)]] => c a_Clock a_Cells b_Clock b_Cells (fun r0 => k (.bool r0))
  | _ => none
noncomputable def laws_eqMem_f (A : PM.Prims) (c_102 : laws_eqWordS_T) (a_Clock : Int) (a_Cells : List (List Int)) (b_Clock : Int) (b_Cells : List (List Int)) (k : (Bool) → PM.R) : PM.R :=
  bif (A.not (A.eq a_Clock b_Clock)) then
    k false
  else
    c_102 a_Cells b_Cells (fun r1 =>
      bif (A.not r1) then
        k false
      else
        k true)
noncomputable def laws_eqMem (A : PM.Prims) : laws_eqMem_T := laws_eqMem_f A (laws_eqWordS A)
noncomputable def laws_eqMem_L (A : PM.Prims) (c_102 : laws_eqWordS_T) (n : Nat) : PM.Lam := fun cur σ K =>
  match cur, σ, K with
  | _, _, _ => none
noncomputable def laws_eqMem_E (A : PM.Prims) (c_102 : laws_eqWordS_T) : PM.Env := ⟨[(102, ⟨[], laws_eqWordS_w c_102, none⟩)], [], [], [(0, [2, 3]), (1, [2, 3, 9]), (2, [4]), (3, [15]), (4, [4]), (5, [4])], laws_eqMem_L A c_102 A.fuel⟩
theorem laws_eqMem_ok (A : PM.Prims) (c_102 : laws_eqWordS_T) (a_Clock : Int) (a_Cells : List (List Int)) (b_Clock : Int) (b_Cells : List (List Int)) (k : PM.V → PM.R) : PM.pfun A cx [] (laws_eqMem_E A c_102) Go.Proofs.Try.f32 [.agg [.int .i64 a_Clock, .arr (.vecs 49 3 a_Cells)], .agg [.int .i64 b_Clock, .arr (.vecs 49 3 b_Cells)]] k = laws_eqMem_f A c_102 a_Clock a_Cells b_Clock b_Cells (fun r0 => k (.bool r0)) := by kernel_rfl

theorem laws_eqMem_fn : PM.FnIs Try.prog 32 Try.f32 := .of Try.func32 (by kernel_rfl) (by kernel_rfl)
theorem laws_eqMem_g : PM.GOk Try.prog cx 32 ⟨[], laws_eqMem_w (laws_eqMem PM.std), none⟩ := by
  refine ⟨laws_eqMem_fn.enter, fun _ ds k r h => ?_, fun hm => absurd rfl hm, fun _ e => (by cases e)⟩
  change laws_eqMem_w (laws_eqMem PM.std) ds k = some r at h
  unfold laws_eqMem_w at h
  split at h
  · exact PM.pfun_ok (E := laws_eqMem_E PM.std (laws_eqWordS PM.std)) (L := fun n => laws_eqMem_L PM.std (laws_eqWordS PM.std) n) (N := PM.std.fuel) cx_ok (.cons laws_eqWordS_g .nil) mixed .nil laws_eqMem_fn (by kernel_rfl) ⟨rfl, fun _ _ _ => rfl, fun n cur σ K r h => by cases h⟩
      ((laws_eqMem_ok PM.std (laws_eqWordS PM.std) _ _ _ _ k).trans h)
  · cases h

abbrev laws_FnExactProbeStep_T := (Int) → (List (List Int)) → (Int) → (Int) → (Int) → (Int) → (Int) → ((Bool) → PM.R) → PM.R
noncomputable def laws_FnExactProbeStep_w (c : laws_FnExactProbeStep_T) (ds : List PM.V) (k : PM.V → PM.R) : PM.R :=
  match ds with
  | [.agg [.int .i64 aM_Clock, .arr (.vecs 155 3 aM_Cells)], .int .i64 aRv, .agg [.int .i64 aP_Cell, .int .i64 aP_Phase, .int .i64 aP_Ver, .int .i64 aP_Val]] => c aM_Clock aM_Cells aRv aP_Cell aP_Phase aP_Ver aP_Val (fun r0 => k (.bool r0))
  | _ => none
noncomputable def laws_FnExactProbeStep_f (A : PM.Prims) (c_28 : laws_szMem_T) (c_30 : laws_toMem_T) (c_23 : laws_toProbe_T) (c_29 : spec_ProbeStep_T) (c_31 : impl_ProbeStep_T) (c_27 : laws_eqProbe_T) (c_32 : laws_eqMem_T) (aM_Clock : Int) (aM_Cells : List (List Int)) (aRv : Int) (aP_Cell : Int) (aP_Phase : Int) (aP_Ver : Int) (aP_Val : Int) (k : (Bool) → PM.R) : PM.R :=
  c_28 aM_Clock aM_Cells 1048576 (fun r1 =>
    bif (A.lt r1 0) then
      k true
    else
      c_30 aM_Clock aM_Cells (fun r2 r3 =>
        c_23 aP_Cell aP_Phase aP_Ver aP_Val (fun r4 r5 r6 r7 =>
          c_29 r2 r3 aRv r4 r5 r6 r7 (fun r8 r9 r10 r11 =>
            c_30 aM_Clock aM_Cells (fun r12 r13 =>
              c_23 aP_Cell aP_Phase aP_Ver aP_Val (fun r14 r15 r16 r17 =>
                c_31 r12 r13 aRv r14 r15 r16 r17 (fun r18 r19 r20 r21 =>
                  c_27 r18 r19 r20 r21 r8 r9 r10 r11 (fun r22 =>
                    bif (A.not r22) then
                      k false
                    else
                      c_30 aM_Clock aM_Cells (fun r23 r24 =>
                        c_32 r12 r13 r23 r24 (fun r25 =>
                          bif (A.not r25) then
                            k false
                          else
                            k true))))))))))
noncomputable def laws_FnExactProbeStep (A : PM.Prims) : laws_FnExactProbeStep_T := laws_FnExactProbeStep_f A (laws_szMem A) (laws_toMem A) (laws_toProbe A) (spec_ProbeStep A) (impl_ProbeStep A) (laws_eqProbe A) (laws_eqMem A)
noncomputable def laws_FnExactProbeStep_L (A : PM.Prims) (c_28 : laws_szMem_T) (c_30 : laws_toMem_T) (c_23 : laws_toProbe_T) (c_29 : spec_ProbeStep_T) (c_31 : impl_ProbeStep_T) (c_27 : laws_eqProbe_T) (c_32 : laws_eqMem_T) (n : Nat) : PM.Lam := fun cur σ K =>
  match cur, σ, K with
  | _, _, _ => none
noncomputable def laws_FnExactProbeStep_E (A : PM.Prims) (c_28 : laws_szMem_T) (c_30 : laws_toMem_T) (c_23 : laws_toProbe_T) (c_29 : spec_ProbeStep_T) (c_31 : impl_ProbeStep_T) (c_27 : laws_eqProbe_T) (c_32 : laws_eqMem_T) : PM.Env := ⟨[(28, ⟨[], laws_szMem_w c_28, none⟩), (30, ⟨[], laws_toMem_w c_30, none⟩), (23, ⟨[], laws_toProbe_w c_23, none⟩), (29, ⟨[], spec_ProbeStep_w c_29, none⟩), (31, ⟨[], impl_ProbeStep_w c_31, none⟩), (27, ⟨[], laws_eqProbe_w c_27, none⟩), (32, ⟨[], laws_eqMem_w c_32, none⟩)], [], [], [(0, [1, 3, 5]), (1, [1, 3, 5, 7]), (2, [1, 3, 5, 7]), (3, [1, 3, 5, 15]), (4, [6]), (5, [1, 3, 5, 8]), (6, [1, 3, 5, 8, 9]), (7, [3, 8, 9, 10]), (8, [3, 9, 32]), (9, [6]), (10, [37]), (11, [6]), (12, [6])], laws_FnExactProbeStep_L A c_28 c_30 c_23 c_29 c_31 c_27 c_32 A.fuel⟩
theorem laws_FnExactProbeStep_ok (A : PM.Prims) (c_28 : laws_szMem_T) (c_30 : laws_toMem_T) (c_23 : laws_toProbe_T) (c_29 : spec_ProbeStep_T) (c_31 : impl_ProbeStep_T) (c_27 : laws_eqProbe_T) (c_32 : laws_eqMem_T) (aM_Clock : Int) (aM_Cells : List (List Int)) (aRv : Int) (aP_Cell : Int) (aP_Phase : Int) (aP_Ver : Int) (aP_Val : Int) (k : PM.V → PM.R) : PM.pfun A cx [] (laws_FnExactProbeStep_E A c_28 c_30 c_23 c_29 c_31 c_27 c_32) Go.Proofs.Try.f5 [.agg [.int .i64 aM_Clock, .arr (.vecs 155 3 aM_Cells)], .int .i64 aRv, .agg [.int .i64 aP_Cell, .int .i64 aP_Phase, .int .i64 aP_Ver, .int .i64 aP_Val]] k = laws_FnExactProbeStep_f A c_28 c_30 c_23 c_29 c_31 c_27 c_32 aM_Clock aM_Cells aRv aP_Cell aP_Phase aP_Ver aP_Val (fun r0 => k (.bool r0)) := by kernel_rfl

theorem laws_FnExactProbeStep_fn : PM.FnIs Try.prog 5 Try.f5 := .of Try.func5 (by kernel_rfl) (by kernel_rfl)
theorem laws_FnExactProbeStep_g : PM.GOk Try.prog cx 5 ⟨[], laws_FnExactProbeStep_w (laws_FnExactProbeStep PM.std), none⟩ := by
  refine ⟨laws_FnExactProbeStep_fn.enter, fun _ ds k r h => ?_, fun hm => absurd rfl hm, fun _ e => (by cases e)⟩
  change laws_FnExactProbeStep_w (laws_FnExactProbeStep PM.std) ds k = some r at h
  unfold laws_FnExactProbeStep_w at h
  split at h
  · exact PM.pfun_ok (E := laws_FnExactProbeStep_E PM.std (laws_szMem PM.std) (laws_toMem PM.std) (laws_toProbe PM.std) (spec_ProbeStep PM.std) (impl_ProbeStep PM.std) (laws_eqProbe PM.std) (laws_eqMem PM.std)) (L := fun n => laws_FnExactProbeStep_L PM.std (laws_szMem PM.std) (laws_toMem PM.std) (laws_toProbe PM.std) (spec_ProbeStep PM.std) (impl_ProbeStep PM.std) (laws_eqProbe PM.std) (laws_eqMem PM.std) n) (N := PM.std.fuel) cx_ok (.cons laws_szMem_g (.cons laws_toMem_g (.cons laws_toProbe_g (.cons spec_ProbeStep_g (.cons impl_ProbeStep_g (.cons laws_eqProbe_g (.cons laws_eqMem_g .nil))))))) mixed .nil laws_FnExactProbeStep_fn (by kernel_rfl) ⟨rfl, fun _ _ _ => rfl, fun n cur σ K r h => by cases h⟩
      ((laws_FnExactProbeStep_ok PM.std (laws_szMem PM.std) (laws_toMem PM.std) (laws_toProbe PM.std) (spec_ProbeStep PM.std) (impl_ProbeStep PM.std) (laws_eqProbe PM.std) (laws_eqMem PM.std) _ _ _ _ _ _ _ k).trans h)
  · cases h

abbrev laws_szHoldS_T := (List (List Int)) → (Int) → ((Int) → PM.R) → PM.R
noncomputable def laws_szHoldS_w (c : laws_szHoldS_T) (ds : List PM.V) (k : PM.V → PM.R) : PM.R :=
  match ds with
  | [.arr (.vecs 124 3 a), .int .i64 left] => c a left (fun r0 => k (.int .i64 r0))
  | _ => none
noncomputable def laws_szHoldS_f (A : PM.Prims) (a : List (List Int)) (left : Int) (k : (Int) → PM.R) : PM.R :=
  bif (A.lt (A.sub .i64 left (A.vlen a)) 0) then
    k (-1)
  else
    k (A.sub .i64 left (A.vlen a))
noncomputable def laws_szHoldS (A : PM.Prims) : laws_szHoldS_T := laws_szHoldS_f A
noncomputable def laws_szHoldS_L (A : PM.Prims) (n : Nat) : PM.Lam := fun cur σ K =>
  match cur, σ, K with
  | _, _, _ => none
noncomputable def laws_szHoldS_E (A : PM.Prims) : PM.Env := ⟨[], [], [], [(0, [0, 1]), (1, [1]), (2, [1, 10]), (3, [4]), (4, [4])], laws_szHoldS_L A A.fuel⟩
theorem laws_szHoldS_ok (A : PM.Prims) (a : List (List Int)) (left : Int) (k : PM.V → PM.R) : PM.pfun A cx [] (laws_szHoldS_E A) Go.Proofs.Try.f36 [.arr (.vecs 124 3 a), .int .i64 left] k = laws_szHoldS_f A a left (fun r0 => k (.int .i64 r0)) := by kernel_rfl

theorem laws_szHoldS_fn : PM.FnIs Try.prog 36 Try.f36 := .of Try.func36 (by kernel_rfl) (by kernel_rfl)
theorem laws_szHoldS_g : PM.GOk Try.prog cx 36 ⟨[], laws_szHoldS_w (laws_szHoldS PM.std), none⟩ := by
  refine ⟨laws_szHoldS_fn.enter, fun _ ds k r h => ?_, fun hm => absurd rfl hm, fun _ e => (by cases e)⟩
  change laws_szHoldS_w (laws_szHoldS PM.std) ds k = some r at h
  unfold laws_szHoldS_w at h
  split at h
  · exact PM.pfun_ok (E := laws_szHoldS_E PM.std) (L := fun n => laws_szHoldS_L PM.std n) (N := PM.std.fuel) cx_ok .nil mixed .nil laws_szHoldS_fn (by kernel_rfl) ⟨rfl, fun _ _ _ => rfl, fun n cur σ K r h => by cases h⟩
      ((laws_szHoldS_ok PM.std _ _ k).trans h)
  · cases h

abbrev laws_toHold_T := (Int) → (Int) → (Int) → ((Int) → (Int) → (Int) → PM.R) → PM.R
noncomputable def laws_toHold_w (c : laws_toHold_T) (ds : List PM.V) (k : PM.V → PM.R) : PM.R :=
  match ds with
  | [.agg [.int .i64 a_Who, .int .i64 a_What, .int .i64 a_Mode]] => c a_Who a_What a_Mode (fun r0_Who r0_What r0_Mode => k (.agg [.int .i64 r0_Who, .int .i64 r0_What, .int .i64 r0_Mode]))
  | _ => none
noncomputable def laws_toHold_f (A : PM.Prims) (a_Who : Int) (a_What : Int) (a_Mode : Int) (k : (Int) → (Int) → (Int) → PM.R) : PM.R :=
  k a_Who a_What a_Mode
noncomputable def laws_toHold (A : PM.Prims) : laws_toHold_T := laws_toHold_f A
noncomputable def laws_toHold_L (A : PM.Prims) (n : Nat) : PM.Lam := fun cur σ K =>
  match cur, σ, K with
  | _, _, _ => none
noncomputable def laws_toHold_E (A : PM.Prims) : PM.Env := ⟨[], [], [], [(0, [1, 2]), (1, [1, 2, 3]), (2, [1, 2, 3]), (3, [1, 2, 3]), (4, [2, 3]), (5, [2])], laws_toHold_L A A.fuel⟩
theorem laws_toHold_ok (A : PM.Prims) (a_Who : Int) (a_What : Int) (a_Mode : Int) (k : PM.V → PM.R) : PM.pfun A cx [] (laws_toHold_E A) Go.Proofs.Try.f109 [.agg [.int .i64 a_Who, .int .i64 a_What, .int .i64 a_Mode]] k = laws_toHold_f A a_Who a_What a_Mode (fun r0_Who r0_What r0_Mode => k (.agg [.int .i64 r0_Who, .int .i64 r0_What, .int .i64 r0_Mode])) := by kernel_rfl

theorem laws_toHold_fn : PM.FnIs Try.prog 109 Try.f109 := .of Try.func109 (by kernel_rfl) (by kernel_rfl)
theorem laws_toHold_g : PM.GOk Try.prog cx 109 ⟨[], laws_toHold_w (laws_toHold PM.std), none⟩ := by
  refine ⟨laws_toHold_fn.enter, fun _ ds k r h => ?_, fun hm => absurd rfl hm, fun _ e => (by cases e)⟩
  change laws_toHold_w (laws_toHold PM.std) ds k = some r at h
  unfold laws_toHold_w at h
  split at h
  · exact PM.pfun_ok (E := laws_toHold_E PM.std) (L := fun n => laws_toHold_L PM.std n) (N := PM.std.fuel) cx_ok .nil mixed .nil laws_toHold_fn (by kernel_rfl) ⟨rfl, fun _ _ _ => rfl, fun n cur σ K r h => by cases h⟩
      ((laws_toHold_ok PM.std _ _ _ k).trans h)
  · cases h

abbrev laws_toHoldS_T := (List (List Int)) → ((List (List Int)) → PM.R) → PM.R
noncomputable def laws_toHoldS_w (c : laws_toHoldS_T) (ds : List PM.V) (k : PM.V → PM.R) : PM.R :=
  match ds with
  | [.arr (.vecs 124 3 a)] => c a (fun r0 => k (.arr (.vecs 73 3 r0)))
  | _ => none
noncomputable def laws_toHoldS_l0 (A : PM.Prims) (c_109 : laws_toHold_T) : Nat → (List (List Int)) → (Int) → (List (List Int)) → ((List (List Int)) → PM.R) → PM.R
  | 0, _, _, _, _ => none
  | n + 1, a1, i2, o03, kx0_0 =>
    bif (A.lt i2 (A.vlen a1)) then
      bif (A.inb i2 (A.vlen a1)) then
        c_109 (A.vget a1 i2 0) (A.vget a1 i2 1) (A.vget a1 i2 2) (fun r4 r5 r6 =>
          bif (A.inb i2 (A.vlen o03)) then
            laws_toHoldS_l0 A c_109 n a1 (A.add .i64 i2 1) (A.vput o03 i2 [r4, r5, r6]) kx0_0
          else
            none)
      else
        none
    else
      kx0_0 o03
noncomputable def laws_toHoldS_f (A : PM.Prims) (c_109 : laws_toHold_T) (a : List (List Int)) (k : (List (List Int)) → PM.R) : PM.R :=
  bif (A.mkOk (A.vlen a)) then
    bif (A.le (A.vlen a) (A.vlen a)) then
      bif (A.mkOk (A.vlen a)) then
        laws_toHoldS_l0 A c_109 A.fuel a 0 (A.vzero 3 (A.vlen a)) (fun o078 =>
          k o078)
      else
        none
    else
      none
  else
    none
noncomputable def laws_toHoldS (A : PM.Prims) : laws_toHoldS_T := laws_toHoldS_f A (laws_toHold A)
noncomputable def laws_toHoldS_L (A : PM.Prims) (c_109 : laws_toHold_T) (n : Nat) : PM.Lam := fun cur σ K =>
  match cur, σ, K with
  | 0, ⟨[(0, .arr (.vecs 124 3 a1)), (3, .sref 0), (4, .int .i64 i2)], [(0, .arr true (.vecs 73 3 o03))]⟩, K => laws_toHoldS_l0 A c_109 n a1 i2 o03 (fun o07 => K (.exit 0) ⟨[(3, .sref 0)], [(0, .arr true (.vecs 73 3 o07))]⟩)
  | _, _, _ => none
noncomputable def laws_toHoldS_E (A : PM.Prims) (c_109 : laws_toHold_T) : PM.Env := ⟨[(109, ⟨[], laws_toHold_w c_109, none⟩)], [], [(0, [0, 3, 4], [2, 3])], [(0, [0]), (1, [0, 3]), (2, [0, 3, 4]), (3, [0, 3, 4, 11]), (4, [0, 3, 4]), (5, [0, 3, 4]), (6, [2])], laws_toHoldS_L A c_109 A.fuel⟩
theorem laws_toHoldS_l0_ok (A : PM.Prims) (c_109 : laws_toHold_T) (n : Nat) (a1 : List (List Int)) (i2 : Int) (o03 : List (List Int)) (K : Go.Exit → PM.S → PM.R) : laws_toHoldS_L A c_109 (n + 1) 0 ⟨[(0, .arr (.vecs 124 3 a1)), (3, .sref 0), (4, .int .i64 i2)], [(0, .arr true (.vecs 73 3 o03))]⟩ K = PM.roundF A cx (PM.runD A cx (laws_toHoldS_E A c_109).inl (laws_toHoldS_E A c_109).Γ 3) (laws_toHoldS_E A c_109) (laws_toHoldS_L A c_109 n) 0 Go.Proofs.Try.f38 ⟨[(0, .arr (.vecs 124 3 a1)), (3, .sref 0), (4, .int .i64 i2)], [(0, .arr true (.vecs 73 3 o03))]⟩ K := by kernel_rfl
theorem laws_toHoldS_ok (A : PM.Prims) (c_109 : laws_toHold_T) (a : List (List Int)) (k : PM.V → PM.R) : PM.pfun A cx [] (laws_toHoldS_E A c_109) Go.Proofs.Try.f38 [.arr (.vecs 124 3 a)] k = laws_toHoldS_f A c_109 a (fun r0 => k (.arr (.vecs 73 3 r0))) := by kernel_rfl

theorem laws_toHoldS_fn : PM.FnIs Try.prog 38 Try.f38 := .of Try.func38 (by kernel_rfl) (by kernel_rfl)
theorem laws_toHoldS_g : PM.GOk Try.prog cx 38 ⟨[], laws_toHoldS_w (laws_toHoldS PM.std), none⟩ := by
  refine ⟨laws_toHoldS_fn.enter, fun _ ds k r h => ?_, fun hm => absurd rfl hm, fun _ e => (by cases e)⟩
  change laws_toHoldS_w (laws_toHoldS PM.std) ds k = some r at h
  unfold laws_toHoldS_w at h
  split at h
  · exact PM.pfun_ok (E := laws_toHoldS_E PM.std (laws_toHold PM.std)) (L := fun n => laws_toHoldS_L PM.std (laws_toHold PM.std) n) (N := PM.std.fuel) cx_ok (.cons laws_toHold_g .nil) mixed .nil laws_toHoldS_fn (by kernel_rfl) ⟨rfl, fun cur σ K => by
      dsimp only [laws_toHoldS_L]
      split <;> rfl, fun n cur σ K r h => by
      dsimp only [laws_toHoldS_L] at h
      split at h
      · exact (laws_toHoldS_l0_ok PM.std (laws_toHold PM.std) n _ _ _ K).symm.trans h
      · cases h⟩
      ((laws_toHoldS_ok PM.std (laws_toHold PM.std) _ k).trans h)
  · cases h

abbrev spec_HoldsOk_T := (List (List Int)) → ((Bool) → PM.R) → PM.R
noncomputable def spec_HoldsOk_w (c : spec_HoldsOk_T) (ds : List PM.V) (k : PM.V → PM.R) : PM.R :=
  match ds with
  | [.arr (.vecs 73 3 __)] => c __ (fun r0 => k (.bool r0))
  | _ => none
noncomputable def spec_HoldsOk_l0 (A : PM.Prims) (c_94 : spec_l1In_T) : Nat → (List (List Int)) → (Int) → ((Bool) → PM.R) → (Unit → PM.R) → PM.R
  | 0, _, _, _, _ => none
  | n + 1, l1, i2, kret_0, kx0_0 =>
    bif (A.lt i2 (A.vlen l1)) then
      bif (A.inb i2 (A.vlen l1)) then
        c_94 (A.vget l1 i2 0) 1 9 (fun r3 =>
          bif (A.not r3) then
            kret_0 false
          else
            c_94 (A.vget l1 i2 1) 0 8 (fun r5 =>
              bif (A.not r5) then
                kret_0 false
              else
                c_94 (A.vget l1 i2 2) 1 2 (fun r6 =>
                  bif (A.not r6) then
                    kret_0 false
                  else
                    bif (A.lt 0 i2) then
                      bif (A.inb (A.sub .i64 i2 1) (A.vlen l1)) then
                        bif (A.lt (A.vget l1 i2 1) (A.vget l1 (A.sub .i64 i2 1) 1)) then
                          kret_0 false
                        else
                          bif (A.inb (A.sub .i64 i2 1) (A.vlen l1)) then
                            bif (A.eq (A.vget l1 (A.sub .i64 i2 1) 1) (A.vget l1 i2 1)) then
                              bif (A.inb (A.sub .i64 i2 1) (A.vlen l1)) then
                                bif (A.le (A.vget l1 i2 0) (A.vget l1 (A.sub .i64 i2 1) 0)) then
                                  kret_0 false
                                else
                                  bif (A.eq (A.vget l1 i2 2) 2) then
                                    kret_0 false
                                  else
                                    bif (A.inb (A.sub .i64 i2 1) (A.vlen l1)) then
                                      bif (A.eq (A.vget l1 (A.sub .i64 i2 1) 2) 2) then
                                        kret_0 false
                                      else
                                        spec_HoldsOk_l0 A c_94 n l1 (A.add .i64 i2 1) kret_0 kx0_0
                                    else
                                      none
                              else
                                none
                            else
                              spec_HoldsOk_l0 A c_94 n l1 (A.add .i64 i2 1) kret_0 kx0_0
                          else
                            none
                      else
                        none
                    else
                      spec_HoldsOk_l0 A c_94 n l1 (A.add .i64 i2 1) kret_0 kx0_0)))
      else
        none
    else
      kx0_0 ()
noncomputable def spec_HoldsOk_f (A : PM.Prims) (c_94 : spec_l1In_T) (__ : List (List Int)) (k : (Bool) → PM.R) : PM.R :=
  spec_HoldsOk_l0 A c_94 A.fuel __ 0 (fun t247 =>
    k t247) (fun _ =>
    k true)
noncomputable def spec_HoldsOk (A : PM.Prims) : spec_HoldsOk_T := spec_HoldsOk_f A (spec_l1In A)
noncomputable def spec_HoldsOk_L (A : PM.Prims) (c_94 : spec_l1In_T) (n : Nat) : PM.Lam := fun cur σ K =>
  match cur, σ, K with
  | 0, ⟨[(0, .arr (.vecs 73 3 l1)), (3, .int .i64 i2)], []⟩, K => spec_HoldsOk_l0 A c_94 n l1 i2 (fun t24 => K .ret ⟨[(2, .bool t24)], []⟩) (fun _ => K (.exit 0) ⟨[], []⟩)
  | _, _, _ => none
noncomputable def spec_HoldsOk_E (A : PM.Prims) (c_94 : spec_l1In_T) : PM.Env := ⟨[(94, ⟨[], spec_l1In_w c_94, none⟩)], [], [(0, [0, 3], [2])], [(0, [0]), (1, [0, 3]), (2, [0, 3, 8]), (3, [0, 3]), (4, [0, 3, 4]), (5, [0, 3, 4, 30]), (6, [2]), (7, [0, 3, 79]), (8, [2]), (9, [2])], spec_HoldsOk_L A c_94 A.fuel⟩
theorem spec_HoldsOk_l0_ok (A : PM.Prims) (c_94 : spec_l1In_T) (n : Nat) (l1 : List (List Int)) (i2 : Int) (K : Go.Exit → PM.S → PM.R) : spec_HoldsOk_L A c_94 (n + 1) 0 ⟨[(0, .arr (.vecs 73 3 l1)), (3, .int .i64 i2)], []⟩ K = PM.roundF A cx (PM.runD A cx (spec_HoldsOk_E A c_94).inl (spec_HoldsOk_E A c_94).Γ 3) (spec_HoldsOk_E A c_94) (spec_HoldsOk_L A c_94 n) 0 Go.Proofs.Try.f37 ⟨[(0, .arr (.vecs 73 3 l1)), (3, .int .i64 i2)], []⟩ K := by kernel_rfl
theorem spec_HoldsOk_ok (A : PM.Prims) (c_94 : spec_l1In_T) (__ : List (List Int)) (k : PM.V → PM.R) : PM.pfun A cx [] (spec_HoldsOk_E A c_94) Go.Proofs.Try.f37 [.arr (.vecs 73 3 __)] k = spec_HoldsOk_f A c_94 __ (fun r0 => k (.bool r0)) := by kernel_rfl

theorem spec_HoldsOk_fn : PM.FnIs Try.prog 37 Try.f37 := .of Try.func37 (by kernel_rfl) (by kernel_rfl)
theorem spec_HoldsOk_g : PM.GOk Try.prog cx 37 ⟨[], spec_HoldsOk_w (spec_HoldsOk PM.std), none⟩ := by
  refine ⟨spec_HoldsOk_fn.enter, fun _ ds k r h => ?_, fun hm => absurd rfl hm, fun _ e => (by cases e)⟩
  change spec_HoldsOk_w (spec_HoldsOk PM.std) ds k = some r at h
  unfold spec_HoldsOk_w at h
  split at h
  · exact PM.pfun_ok (E := spec_HoldsOk_E PM.std (spec_l1In PM.std)) (L := fun n => spec_HoldsOk_L PM.std (spec_l1In PM.std) n) (N := PM.std.fuel) cx_ok (.cons spec_l1In_g .nil) mixed .nil spec_HoldsOk_fn (by kernel_rfl) ⟨rfl, fun cur σ K => by
      dsimp only [spec_HoldsOk_L]
      split <;> rfl, fun n cur σ K r h => by
      dsimp only [spec_HoldsOk_L] at h
      split at h
      · exact (spec_HoldsOk_l0_ok PM.std (spec_l1In PM.std) n _ _ K).symm.trans h
      · cases h⟩
      ((spec_HoldsOk_ok PM.std (spec_l1In PM.std) _ k).trans h)
  · cases h

abbrev spec_Blocks_T := (List (List Int)) → (Int) → (Int) → (Int) → ((List Int) → PM.R) → PM.R
noncomputable def spec_Blocks_w (c : spec_Blocks_T) (ds : List PM.V) (k : PM.V → PM.R) : PM.R :=
  match ds with
  | [.arr (.vecs 73 3 l), .int .i64 who, .int .i64 what, .int .i64 mode] => c l who what mode (fun r0 => k (.arr (.ints 3 .i64 r0)))
  | _ => none
noncomputable def spec_Blocks_l0 (A : PM.Prims) (c_94 : spec_l1In_T) (c_37 : spec_HoldsOk_T) : Nat → (List (List Int)) → (Int) → (Int) → (Int) → (Int) → (List Int) → ((List Int) → PM.R) → PM.R
  | 0, _, _, _, _, _, _, _ => none
  | n + 1, l3, who4, what5, mode6, i7, o08, kx0_0 =>
    bif (A.lt i7 (A.vlen l3)) then
      bif (A.inb i7 (A.vlen l3)) then
        bif (A.eq (A.vget l3 i7 1) what5) then
          bif (A.inb i7 (A.vlen l3)) then
            bif (A.not (A.eq (A.vget l3 i7 0) who4)) then
              bif (A.eq mode6 2) then
                bif (A.inb i7 (A.vlen l3)) then
                  bif (A.room (A.ilen o08) (A.ilen [(A.vget l3 i7 0)])) then
                    spec_Blocks_l0 A c_94 c_37 n l3 who4 what5 mode6 (A.add .i64 i7 1) (A.iapp o08 [(A.vget l3 i7 0)]) kx0_0
                  else
                    none
                else
                  none
              else
                bif (A.inb i7 (A.vlen l3)) then
                  bif (A.eq (A.vget l3 i7 2) 2) then
                    bif (A.inb i7 (A.vlen l3)) then
                      bif (A.room (A.ilen o08) (A.ilen [(A.vget l3 i7 0)])) then
                        spec_Blocks_l0 A c_94 c_37 n l3 who4 what5 mode6 (A.add .i64 i7 1) (A.iapp o08 [(A.vget l3 i7 0)]) kx0_0
                      else
                        none
                    else
                      none
                  else
                    spec_Blocks_l0 A c_94 c_37 n l3 who4 what5 mode6 (A.add .i64 i7 1) o08 kx0_0
                else
                  none
            else
              spec_Blocks_l0 A c_94 c_37 n l3 who4 what5 mode6 (A.add .i64 i7 1) o08 kx0_0
          else
            none
        else
          spec_Blocks_l0 A c_94 c_37 n l3 who4 what5 mode6 (A.add .i64 i7 1) o08 kx0_0
      else
        none
    else
      kx0_0 o08
noncomputable def spec_Blocks_f (A : PM.Prims) (c_94 : spec_l1In_T) (c_37 : spec_HoldsOk_T) (l : List (List Int)) (who : Int) (what : Int) (mode : Int) (k : (List Int) → PM.R) : PM.R :=
  c_37 l (fun r1 =>
    bif (A.not r1) then
      k []
    else
      c_94 mode 1 2 (fun r2 =>
        bif (A.not r2) then
          k []
        else
          spec_Blocks_l0 A c_94 c_37 A.fuel l who what mode 0 [] (fun o0910 =>
            k o0910)))
noncomputable def spec_Blocks (A : PM.Prims) : spec_Blocks_T := spec_Blocks_f A (spec_l1In A) (spec_HoldsOk A)
noncomputable def spec_Blocks_L (A : PM.Prims) (c_94 : spec_l1In_T) (c_37 : spec_HoldsOk_T) (n : Nat) : PM.Lam := fun cur σ K =>
  match cur, σ, K with
  | 0, ⟨[(0, .arr (.vecs 73 3 l3)), (1, .int .i64 who4), (2, .int .i64 what5), (3, .int .i64 mode6), (9, .sref 0), (10, .int .i64 i7)], [(0, .arr true (.ints 3 .i64 o08))]⟩, K => spec_Blocks_l0 A c_94 c_37 n l3 who4 what5 mode6 i7 o08 (fun o09 => K (.exit 0) ⟨[(9, .sref 0)], [(0, .arr true (.ints 3 .i64 o09))]⟩)
  | _, _, _ => none
noncomputable def spec_Blocks_E (A : PM.Prims) (c_94 : spec_l1In_T) (c_37 : spec_HoldsOk_T) : PM.Env := ⟨[(94, ⟨[], spec_l1In_w c_94, none⟩), (37, ⟨[], spec_HoldsOk_w c_37, none⟩)], [], [(0, [0, 1, 2, 3, 9, 10], [8, 9])], [(0, [0, 1, 2, 3]), (1, [0, 1, 2, 3, 9]), (2, [0, 1, 2, 3, 9, 19]), (3, [8]), (4, [0, 1, 2, 3, 9, 10]), (5, [0, 1, 2, 3, 9, 10, 24]), (6, [0, 1, 2, 3, 9, 10]), (7, [0, 1, 2, 3, 9, 10, 54]), (8, [0, 1, 2, 3, 9, 10]), (9, [8])], spec_Blocks_L A c_94 c_37 A.fuel⟩
theorem spec_Blocks_l0_ok (A : PM.Prims) (c_94 : spec_l1In_T) (c_37 : spec_HoldsOk_T) (n : Nat) (l3 : List (List Int)) (who4 : Int) (what5 : Int) (mode6 : Int) (i7 : Int) (o08 : List Int) (K : Go.Exit → PM.S → PM.R) : spec_Blocks_L A c_94 c_37 (n + 1) 0 ⟨[(0, .arr (.vecs 73 3 l3)), (1, .int .i64 who4), (2, .int .i64 what5), (3, .int .i64 mode6), (9, .sref 0), (10, .int .i64 i7)], [(0, .arr true (.ints 3 .i64 o08))]⟩ K = PM.roundF A cx (PM.runD A cx (spec_Blocks_E A c_94 c_37).inl (spec_Blocks_E A c_94 c_37).Γ 3) (spec_Blocks_E A c_94 c_37) (spec_Blocks_L A c_94 c_37 n) 0 Go.Proofs.Try.f43 ⟨[(0, .arr (.vecs 73 3 l3)), (1, .int .i64 who4), (2, .int .i64 what5), (3, .int .i64 mode6), (9, .sref 0), (10, .int .i64 i7)], [(0, .arr true (.ints 3 .i64 o08))]⟩ K := by kernel_rfl
theorem spec_Blocks_ok (A : PM.Prims) (c_94 : spec_l1In_T) (c_37 : spec_HoldsOk_T) (l : List (List Int)) (who : Int) (what : Int) (mode : Int) (k : PM.V → PM.R) : PM.pfun A cx [] (spec_Blocks_E A c_94 c_37) Go.Proofs.Try.f43 [.arr (.vecs 73 3 l), .int .i64 who, .int .i64 what, .int .i64 mode] k = spec_Blocks_f A c_94 c_37 l who what mode (fun r0 => k (.arr (.ints 3 .i64 r0))) := by kernel_rfl

theorem spec_Blocks_fn : PM.FnIs Try.prog 43 Try.f43 := .of Try.func43 (by kernel_rfl) (by kernel_rfl)
theorem spec_Blocks_g : PM.GOk Try.prog cx 43 ⟨[], spec_Blocks_w (spec_Blocks PM.std), none⟩ := by
  refine ⟨spec_Blocks_fn.enter, fun _ ds k r h => ?_, fun hm => absurd rfl hm, fun _ e => (by cases e)⟩
  change spec_Blocks_w (spec_Blocks PM.std) ds k = some r at h
  unfold spec_Blocks_w at h
  split at h
  · exact PM.pfun_ok (E := spec_Blocks_E PM.std (spec_l1In PM.std) (spec_HoldsOk PM.std)) (L := fun n => spec_Blocks_L PM.std (spec_l1In PM.std) (spec_HoldsOk PM.std) n) (N := PM.std.fuel) cx_ok (.cons spec_l1In_g (.cons spec_HoldsOk_g .nil)) mixed .nil spec_Blocks_fn (by kernel_rfl) ⟨rfl, fun cur σ K => by
      dsimp only [spec_Blocks_L]
      split <;> rfl, fun n cur σ K r h => by
      dsimp only [spec_Blocks_L] at h
      split at h
      · exact (spec_Blocks_l0_ok PM.std (spec_l1In PM.std) (spec_HoldsOk PM.std) n _ _ _ _ _ _ K).symm.trans h
      · cases h⟩
      ((spec_Blocks_ok PM.std (spec_l1In PM.std) (spec_HoldsOk PM.std) _ _ _ _ k).trans h)
  · cases h

abbrev impl_isHold_T := (Int) → (Int) → (Int) → ((Bool) → PM.R) → PM.R
noncomputable def impl_isHold_w (c : impl_isHold_T) (ds : List PM.V) (k : PM.V → PM.R) : PM.R :=
  match ds with
  | [.int .i64 who, .int .i64 what, .int .i64 mode] => c who what mode (fun r0 => k (.bool r0))
  | _ => none
noncomputable def impl_isHold_f (A : PM.Prims) (c_97 : impl_within_T) (who : Int) (what : Int) (mode : Int) (k : (Bool) → PM.R) : PM.R :=
  c_97 who 1 9 (fun r1 =>
    bif r1 then
      c_97 what 0 8 (fun r2 =>
        bif r2 then
          c_97 mode 1 2 (fun r3 =>
            k r3)
        else
          k false)
    else
      k false)
noncomputable def impl_isHold (A : PM.Prims) : impl_isHold_T := impl_isHold_f A (impl_within A)
noncomputable def impl_isHold_L (A : PM.Prims) (c_97 : impl_within_T) (n : Nat) : PM.Lam := fun cur σ K =>
  match cur, σ, K with
  | _, _, _ => none
noncomputable def impl_isHold_E (A : PM.Prims) (c_97 : impl_within_T) : PM.Env := ⟨[(97, ⟨[], impl_within_w c_97, none⟩)], [], [], [(0, [0, 1, 2]), (1, [6])], impl_isHold_L A c_97 A.fuel⟩
theorem impl_isHold_ok (A : PM.Prims) (c_97 : impl_within_T) (who : Int) (what : Int) (mode : Int) (k : PM.V → PM.R) : PM.pfun A cx [] (impl_isHold_E A c_97) Go.Proofs.Try.f110 [.int .i64 who, .int .i64 what, .int .i64 mode] k = impl_isHold_f A c_97 who what mode (fun r0 => k (.bool r0)) := by kernel_rfl

theorem impl_isHold_fn : PM.FnIs Try.prog 110 Try.f110 := .of Try.func110 (by kernel_rfl) (by kernel_rfl)
theorem impl_isHold_g : PM.GOk Try.prog cx 110 ⟨[], impl_isHold_w (impl_isHold PM.std), none⟩ := by
  refine ⟨impl_isHold_fn.enter, fun _ ds k r h => ?_, fun hm => absurd rfl hm, fun _ e => (by cases e)⟩
  change impl_isHold_w (impl_isHold PM.std) ds k = some r at h
  unfold impl_isHold_w at h
  split at h
  · exact PM.pfun_ok (E := impl_isHold_E PM.std (impl_within PM.std)) (L := fun n => impl_isHold_L PM.std (impl_within PM.std) n) (N := PM.std.fuel) cx_ok (.cons impl_within_g .nil) mixed .nil impl_isHold_fn (by kernel_rfl) ⟨rfl, fun _ _ _ => rfl, fun n cur σ K r h => by cases h⟩
      ((impl_isHold_ok PM.std (impl_within PM.std) _ _ _ k).trans h)
  · cases h

abbrev impl_compareHolds_T := (Int) → (Int) → (Int) → (Int) → (Int) → (Int) → ((Int) → PM.R) → PM.R
noncomputable def impl_compareHolds_w (c : impl_compareHolds_T) (ds : List PM.V) (k : PM.V → PM.R) : PM.R :=
  match ds with
  | [.agg [.int .i64 a_Who, .int .i64 a_What, .int .i64 a_Mode], .agg [.int .i64 b_Who, .int .i64 b_What, .int .i64 b_Mode]] => c a_Who a_What a_Mode b_Who b_What b_Mode (fun r0 => k (.int .i64 r0))
  | _ => none
noncomputable def impl_compareHolds_f (A : PM.Prims) (a_Who : Int) (a_What : Int) (a_Mode : Int) (b_Who : Int) (b_What : Int) (b_Mode : Int) (k : (Int) → PM.R) : PM.R :=
  bif (A.not (A.eq a_What b_What)) then
    k (A.sub .i64 a_What b_What)
  else
    k (A.sub .i64 a_Who b_Who)
noncomputable def impl_compareHolds (A : PM.Prims) : impl_compareHolds_T := impl_compareHolds_f A
noncomputable def impl_compareHolds_L (A : PM.Prims) (n : Nat) : PM.Lam := fun cur σ K =>
  match cur, σ, K with
  | _, _, _ => none
noncomputable def impl_compareHolds_E (A : PM.Prims) : PM.Env := ⟨[], [], [], [(0, [2, 3]), (1, [2, 3, 9]), (2, [4]), (3, [4])], impl_compareHolds_L A A.fuel⟩
theorem impl_compareHolds_ok (A : PM.Prims) (a_Who : Int) (a_What : Int) (a_Mode : Int) (b_Who : Int) (b_What : Int) (b_Mode : Int) (k : PM.V → PM.R) : PM.pfun A cx [] (impl_compareHolds_E A) Go.Proofs.Try.f111 [.agg [.int .i64 a_Who, .int .i64 a_What, .int .i64 a_Mode], .agg [.int .i64 b_Who, .int .i64 b_What, .int .i64 b_Mode]] k = impl_compareHolds_f A a_Who a_What a_Mode b_Who b_What b_Mode (fun r0 => k (.int .i64 r0)) := by kernel_rfl

theorem impl_compareHolds_fn : PM.FnIs Try.prog 111 Try.f111 := .of Try.func111 (by kernel_rfl) (by kernel_rfl)
theorem impl_compareHolds_g : PM.GOk Try.prog cx 111 ⟨[], impl_compareHolds_w (impl_compareHolds PM.std), none⟩ := by
  refine ⟨impl_compareHolds_fn.enter, fun _ ds k r h => ?_, fun hm => absurd rfl hm, fun _ e => (by cases e)⟩
  change impl_compareHolds_w (impl_compareHolds PM.std) ds k = some r at h
  unfold impl_compareHolds_w at h
  split at h
  · exact PM.pfun_ok (E := impl_compareHolds_E PM.std) (L := fun n => impl_compareHolds_L PM.std n) (N := PM.std.fuel) cx_ok .nil mixed .nil impl_compareHolds_fn (by kernel_rfl) ⟨rfl, fun _ _ _ => rfl, fun n cur σ K r h => by cases h⟩
      ((impl_compareHolds_ok PM.std _ _ _ _ _ _ k).trans h)
  · cases h

abbrev impl_HoldsOk_T := (List (List Int)) → ((Bool) → PM.R) → PM.R
noncomputable def impl_HoldsOk_w (c : impl_HoldsOk_T) (ds : List PM.V) (k : PM.V → PM.R) : PM.R :=
  match ds with
  | [.arr (.vecs 73 3 l)] => c l (fun r0 => k (.bool r0))
  | _ => none
noncomputable def impl_HoldsOk_l0 (A : PM.Prims) (c_110 : impl_isHold_T) (c_111 : impl_compareHolds_T) : Nat → (List (List Int)) → (List (List Int)) → (Int) → (Int) → ((Bool) → PM.R) → (Unit → PM.R) → PM.R
  | 0, _, _, _, _, _, _ => none
  | n + 1, l1, t52, t63, t74, kret_0, kx0_0 =>
    bif (A.lt t74 t63) then
      bif (A.inb t74 (A.vlen t52)) then
        c_110 (A.vget t52 t74 0) (A.vget t52 t74 1) (A.vget t52 t74 2) (fun r5 =>
          bif (A.not r5) then
            kret_0 false
          else
            bif (A.lt 0 t74) then
              bif (A.inb (A.sub .i64 t74 1) (A.vlen l1)) then
                c_111 (A.vget l1 (A.sub .i64 t74 1) 0) (A.vget l1 (A.sub .i64 t74 1) 1) (A.vget l1 (A.sub .i64 t74 1) 2) (A.vget t52 t74 0) (A.vget t52 t74 1) (A.vget t52 t74 2) (fun r7 =>
                  bif (A.le 0 r7) then
                    kret_0 false
                  else
                    bif (A.lt 0 t74) then
                      bif (A.inb (A.sub .i64 t74 1) (A.vlen l1)) then
                        bif (A.eq (A.vget l1 (A.sub .i64 t74 1) 1) (A.vget t52 t74 1)) then
                          bif (A.eq (A.vget t52 t74 2) 2) then
                            kret_0 false
                          else
                            bif (A.inb (A.sub .i64 t74 1) (A.vlen l1)) then
                              bif (A.eq (A.vget l1 (A.sub .i64 t74 1) 2) 2) then
                                kret_0 false
                              else
                                impl_HoldsOk_l0 A c_110 c_111 n l1 t52 t63 (A.add .i64 t74 1) kret_0 kx0_0
                            else
                              none
                        else
                          impl_HoldsOk_l0 A c_110 c_111 n l1 t52 t63 (A.add .i64 t74 1) kret_0 kx0_0
                      else
                        none
                    else
                      impl_HoldsOk_l0 A c_110 c_111 n l1 t52 t63 (A.add .i64 t74 1) kret_0 kx0_0)
              else
                none
            else
              bif (A.lt 0 t74) then
                bif (A.inb (A.sub .i64 t74 1) (A.vlen l1)) then
                  bif (A.eq (A.vget l1 (A.sub .i64 t74 1) 1) (A.vget t52 t74 1)) then
                    bif (A.eq (A.vget t52 t74 2) 2) then
                      kret_0 false
                    else
                      bif (A.inb (A.sub .i64 t74 1) (A.vlen l1)) then
                        bif (A.eq (A.vget l1 (A.sub .i64 t74 1) 2) 2) then
                          kret_0 false
                        else
                          impl_HoldsOk_l0 A c_110 c_111 n l1 t52 t63 (A.add .i64 t74 1) kret_0 kx0_0
                      else
                        none
                  else
                    impl_HoldsOk_l0 A c_110 c_111 n l1 t52 t63 (A.add .i64 t74 1) kret_0 kx0_0
                else
                  none
              else
                impl_HoldsOk_l0 A c_110 c_111 n l1 t52 t63 (A.add .i64 t74 1) kret_0 kx0_0)
      else
        none
    else
      kx0_0 ()
noncomputable def impl_HoldsOk_f (A : PM.Prims) (c_110 : impl_isHold_T) (c_111 : impl_compareHolds_T) (l : List (List Int)) (k : (Bool) → PM.R) : PM.R :=
  impl_HoldsOk_l0 A c_110 c_111 A.fuel l l (A.vlen l) 0 (fun t268 =>
    k t268) (fun _ =>
    k true)
noncomputable def impl_HoldsOk (A : PM.Prims) : impl_HoldsOk_T := impl_HoldsOk_f A (impl_isHold A) (impl_compareHolds A)
noncomputable def impl_HoldsOk_L (A : PM.Prims) (c_110 : impl_isHold_T) (c_111 : impl_compareHolds_T) (n : Nat) : PM.Lam := fun cur σ K =>
  match cur, σ, K with
  | 0, ⟨[(0, .arr (.vecs 73 3 l1)), (5, .arr (.vecs 73 3 t52)), (6, .int .i64 t63), (7, .int .i64 t74)], []⟩, K => impl_HoldsOk_l0 A c_110 c_111 n l1 t52 t63 t74 (fun t26 => K .ret ⟨[(2, .bool t26)], []⟩) (fun _ => K (.exit 0) ⟨[], []⟩)
  | _, _, _ => none
noncomputable def impl_HoldsOk_E (A : PM.Prims) (c_110 : impl_isHold_T) (c_111 : impl_compareHolds_T) : PM.Env := ⟨[(110, ⟨[], impl_isHold_w c_110, none⟩), (111, ⟨[], impl_compareHolds_w c_111, none⟩)], [], [(0, [0, 5, 6, 7], [2])], [(0, [0]), (1, [0, 5, 6, 7]), (2, [0, 5, 6, 7, 8]), (3, [0, 3, 4, 5, 6, 7]), (4, [0, 3, 4, 5, 6, 7, 33]), (5, [2]), (6, [0, 5, 6, 7, 60]), (7, [2]), (8, [0, 5, 6, 7]), (9, [2])], impl_HoldsOk_L A c_110 c_111 A.fuel⟩
theorem impl_HoldsOk_l0_ok (A : PM.Prims) (c_110 : impl_isHold_T) (c_111 : impl_compareHolds_T) (n : Nat) (l1 : List (List Int)) (t52 : List (List Int)) (t63 : Int) (t74 : Int) (K : Go.Exit → PM.S → PM.R) : impl_HoldsOk_L A c_110 c_111 (n + 1) 0 ⟨[(0, .arr (.vecs 73 3 l1)), (5, .arr (.vecs 73 3 t52)), (6, .int .i64 t63), (7, .int .i64 t74)], []⟩ K = PM.roundF A cx (PM.runD A cx (impl_HoldsOk_E A c_110 c_111).inl (impl_HoldsOk_E A c_110 c_111).Γ 3) (impl_HoldsOk_E A c_110 c_111) (impl_HoldsOk_L A c_110 c_111 n) 0 Go.Proofs.Try.f39 ⟨[(0, .arr (.vecs 73 3 l1)), (5, .arr (.vecs 73 3 t52)), (6, .int .i64 t63), (7, .int .i64 t74)], []⟩ K := by kernel_rfl
theorem impl_HoldsOk_ok (A : PM.Prims) (c_110 : impl_isHold_T) (c_111 : impl_compareHolds_T) (l : List (List Int)) (k : PM.V → PM.R) : PM.pfun A cx [] (impl_HoldsOk_E A c_110 c_111) Go.Proofs.Try.f39 [.arr (.vecs 73 3 l)] k = impl_HoldsOk_f A c_110 c_111 l (fun r0 => k (.bool r0)) := by kernel_rfl

theorem impl_HoldsOk_fn : PM.FnIs Try.prog 39 Try.f39 := .of Try.func39 (by kernel_rfl) (by kernel_rfl)
theorem impl_HoldsOk_g : PM.GOk Try.prog cx 39 ⟨[], impl_HoldsOk_w (impl_HoldsOk PM.std), none⟩ := by
  refine ⟨impl_HoldsOk_fn.enter, fun _ ds k r h => ?_, fun hm => absurd rfl hm, fun _ e => (by cases e)⟩
  change impl_HoldsOk_w (impl_HoldsOk PM.std) ds k = some r at h
  unfold impl_HoldsOk_w at h
  split at h
  · exact PM.pfun_ok (E := impl_HoldsOk_E PM.std (impl_isHold PM.std) (impl_compareHolds PM.std)) (L := fun n => impl_HoldsOk_L PM.std (impl_isHold PM.std) (impl_compareHolds PM.std) n) (N := PM.std.fuel) cx_ok (.cons impl_isHold_g (.cons impl_compareHolds_g .nil)) mixed .nil impl_HoldsOk_fn (by kernel_rfl) ⟨rfl, fun cur σ K => by
      dsimp only [impl_HoldsOk_L]
      split <;> rfl, fun n cur σ K r h => by
      dsimp only [impl_HoldsOk_L] at h
      split at h
      · exact (impl_HoldsOk_l0_ok PM.std (impl_isHold PM.std) (impl_compareHolds PM.std) n _ _ _ _ K).symm.trans h
      · cases h⟩
      ((impl_HoldsOk_ok PM.std (impl_isHold PM.std) (impl_compareHolds PM.std) _ k).trans h)
  · cases h

abbrev impl_Blocks_T := (List (List Int)) → (Int) → (Int) → (Int) → ((List Int) → PM.R) → PM.R
noncomputable def impl_Blocks_w (c : impl_Blocks_T) (ds : List PM.V) (k : PM.V → PM.R) : PM.R :=
  match ds with
  | [.arr (.vecs 73 3 l), .int .i64 who, .int .i64 what, .int .i64 mode] => c l who what mode (fun r0 => k (.arr (.ints 3 .i64 r0)))
  | _ => none
noncomputable def impl_Blocks_l0 (A : PM.Prims) (c_97 : impl_within_T) (c_39 : impl_HoldsOk_T) : Nat → (Int) → (Int) → (Int) → (List (List Int)) → (Int) → (Int) → (List Int) → ((List Int) → PM.R) → PM.R
  | 0, _, _, _, _, _, _, _, _ => none
  | n + 1, who3, what4, mode5, t216, t227, t238, o09, kx0_0 =>
    bif (A.lt t238 t227) then
      bif (A.inb t238 (A.vlen t216)) then
        bif (A.eq (A.vget t216 t238 1) what4) then
          bif (A.not (A.eq (A.vget t216 t238 0) who3)) then
            bif (A.eq mode5 2) then
              bif (A.room (A.ilen o09) (A.ilen [(A.vget t216 t238 0)])) then
                impl_Blocks_l0 A c_97 c_39 n who3 what4 mode5 t216 t227 (A.add .i64 t238 1) (A.iapp o09 [(A.vget t216 t238 0)]) kx0_0
              else
                none
            else
              bif (A.eq (A.vget t216 t238 2) 2) then
                bif (A.room (A.ilen o09) (A.ilen [(A.vget t216 t238 0)])) then
                  impl_Blocks_l0 A c_97 c_39 n who3 what4 mode5 t216 t227 (A.add .i64 t238 1) (A.iapp o09 [(A.vget t216 t238 0)]) kx0_0
                else
                  none
              else
                impl_Blocks_l0 A c_97 c_39 n who3 what4 mode5 t216 t227 (A.add .i64 t238 1) o09 kx0_0
          else
            impl_Blocks_l0 A c_97 c_39 n who3 what4 mode5 t216 t227 (A.add .i64 t238 1) o09 kx0_0
        else
          impl_Blocks_l0 A c_97 c_39 n who3 what4 mode5 t216 t227 (A.add .i64 t238 1) o09 kx0_0
      else
        none
    else
      kx0_0 o09
noncomputable def impl_Blocks_f (A : PM.Prims) (c_97 : impl_within_T) (c_39 : impl_HoldsOk_T) (l : List (List Int)) (who : Int) (what : Int) (mode : Int) (k : (List Int) → PM.R) : PM.R :=
  c_39 l (fun r1 =>
    bif (A.not r1) then
      k []
    else
      c_97 mode 1 2 (fun r2 =>
        bif (A.not r2) then
          k []
        else
          impl_Blocks_l0 A c_97 c_39 A.fuel who what mode l (A.vlen l) 0 [] (fun o01011 =>
            k o01011)))
noncomputable def impl_Blocks (A : PM.Prims) : impl_Blocks_T := impl_Blocks_f A (impl_within A) (impl_HoldsOk A)
noncomputable def impl_Blocks_L (A : PM.Prims) (c_97 : impl_within_T) (c_39 : impl_HoldsOk_T) (n : Nat) : PM.Lam := fun cur σ K =>
  match cur, σ, K with
  | 0, ⟨[(1, .int .i64 who3), (2, .int .i64 what4), (3, .int .i64 mode5), (9, .sref 0), (21, .arr (.vecs 73 3 t216)), (22, .int .i64 t227), (23, .int .i64 t238)], [(0, .arr true (.ints 3 .i64 o09))]⟩, K => impl_Blocks_l0 A c_97 c_39 n who3 what4 mode5 t216 t227 t238 o09 (fun o010 => K (.exit 0) ⟨[(9, .sref 0)], [(0, .arr true (.ints 3 .i64 o010))]⟩)
  | _, _, _ => none
noncomputable def impl_Blocks_E (A : PM.Prims) (c_97 : impl_within_T) (c_39 : impl_HoldsOk_T) : PM.Env := ⟨[(97, ⟨[], impl_within_w c_97, none⟩), (39, ⟨[], impl_HoldsOk_w c_39, none⟩)], [], [(0, [1, 2, 3, 9, 21, 22, 23], [8, 9])], [(0, [0, 1, 2, 3]), (1, [0, 1, 2, 3, 19]), (2, [8]), (3, [0, 1, 2, 3, 9]), (4, [1, 2, 3, 9, 21, 22, 23]), (5, [1, 2, 3, 9, 21, 22, 23, 24]), (6, [1, 2, 3, 9, 11, 21, 22, 23]), (7, [1, 2, 3, 9, 11, 21, 22, 23, 45]), (8, [1, 2, 3, 9, 21, 22, 23]), (9, [1, 2, 3, 9, 21, 22, 23]), (10, [8])], impl_Blocks_L A c_97 c_39 A.fuel⟩
theorem impl_Blocks_l0_ok (A : PM.Prims) (c_97 : impl_within_T) (c_39 : impl_HoldsOk_T) (n : Nat) (who3 : Int) (what4 : Int) (mode5 : Int) (t216 : List (List Int)) (t227 : Int) (t238 : Int) (o09 : List Int) (K : Go.Exit → PM.S → PM.R) : impl_Blocks_L A c_97 c_39 (n + 1) 0 ⟨[(1, .int .i64 who3), (2, .int .i64 what4), (3, .int .i64 mode5), (9, .sref 0), (21, .arr (.vecs 73 3 t216)), (22, .int .i64 t227), (23, .int .i64 t238)], [(0, .arr true (.ints 3 .i64 o09))]⟩ K = PM.roundF A cx (PM.runD A cx (impl_Blocks_E A c_97 c_39).inl (impl_Blocks_E A c_97 c_39).Γ 3) (impl_Blocks_E A c_97 c_39) (impl_Blocks_L A c_97 c_39 n) 0 Go.Proofs.Try.f44 ⟨[(1, .int .i64 who3), (2, .int .i64 what4), (3, .int .i64 mode5), (9, .sref 0), (21, .arr (.vecs 73 3 t216)), (22, .int .i64 t227), (23, .int .i64 t238)], [(0, .arr true (.ints 3 .i64 o09))]⟩ K := by kernel_rfl
theorem impl_Blocks_ok (A : PM.Prims) (c_97 : impl_within_T) (c_39 : impl_HoldsOk_T) (l : List (List Int)) (who : Int) (what : Int) (mode : Int) (k : PM.V → PM.R) : PM.pfun A cx [] (impl_Blocks_E A c_97 c_39) Go.Proofs.Try.f44 [.arr (.vecs 73 3 l), .int .i64 who, .int .i64 what, .int .i64 mode] k = impl_Blocks_f A c_97 c_39 l who what mode (fun r0 => k (.arr (.ints 3 .i64 r0))) := by kernel_rfl

theorem impl_Blocks_fn : PM.FnIs Try.prog 44 Try.f44 := .of Try.func44 (by kernel_rfl) (by kernel_rfl)
theorem impl_Blocks_g : PM.GOk Try.prog cx 44 ⟨[], impl_Blocks_w (impl_Blocks PM.std), none⟩ := by
  refine ⟨impl_Blocks_fn.enter, fun _ ds k r h => ?_, fun hm => absurd rfl hm, fun _ e => (by cases e)⟩
  change impl_Blocks_w (impl_Blocks PM.std) ds k = some r at h
  unfold impl_Blocks_w at h
  split at h
  · exact PM.pfun_ok (E := impl_Blocks_E PM.std (impl_within PM.std) (impl_HoldsOk PM.std)) (L := fun n => impl_Blocks_L PM.std (impl_within PM.std) (impl_HoldsOk PM.std) n) (N := PM.std.fuel) cx_ok (.cons impl_within_g (.cons impl_HoldsOk_g .nil)) mixed .nil impl_Blocks_fn (by kernel_rfl) ⟨rfl, fun cur σ K => by
      dsimp only [impl_Blocks_L]
      split <;> rfl, fun n cur σ K r h => by
      dsimp only [impl_Blocks_L] at h
      split at h
      · exact (impl_Blocks_l0_ok PM.std (impl_within PM.std) (impl_HoldsOk PM.std) n _ _ _ _ _ _ _ K).symm.trans h
      · cases h⟩
      ((impl_Blocks_ok PM.std (impl_within PM.std) (impl_HoldsOk PM.std) _ _ _ _ k).trans h)
  · cases h

abbrev laws_eqIntS_T := (List Int) → (List Int) → ((Bool) → PM.R) → PM.R
noncomputable def laws_eqIntS_w (c : laws_eqIntS_T) (ds : List PM.V) (k : PM.V → PM.R) : PM.R :=
  match ds with
  | [.arr (.ints 3 .i64 a), .arr (.ints 3 .i64 b)] => c a b (fun r0 => k (.bool r0))
  | _ => none
noncomputable def laws_eqIntS_l0 (A : PM.Prims) : Nat → (List Int) → (List Int) → (Int) → ((Bool) → PM.R) → (Unit → PM.R) → PM.R
  | 0, _, _, _, _, _ => none
  | n + 1, a1, b2, i3, kret_0, kx0_0 =>
    bif (A.lt i3 (A.ilen a1)) then
      bif (A.inb i3 (A.ilen a1)) then
        bif (A.inb i3 (A.ilen b2)) then
          bif (A.not (A.eq (A.iget a1 i3) (A.iget b2 i3))) then
            kret_0 false
          else
            laws_eqIntS_l0 A n a1 b2 (A.add .i64 i3 1) kret_0 kx0_0
        else
          none
      else
        none
    else
      kx0_0 ()
noncomputable def laws_eqIntS_f (A : PM.Prims) (a : List Int) (b : List Int) (k : (Bool) → PM.R) : PM.R :=
  bif (A.not (A.eq (A.ilen a) (A.ilen b))) then
    k false
  else
    laws_eqIntS_l0 A A.fuel a b 0 (fun t445 =>
      k t445) (fun _ =>
      k true)
noncomputable def laws_eqIntS (A : PM.Prims) : laws_eqIntS_T := laws_eqIntS_f A
noncomputable def laws_eqIntS_L (A : PM.Prims) (n : Nat) : PM.Lam := fun cur σ K =>
  match cur, σ, K with
  | 0, ⟨[(0, .arr (.ints 3 .i64 a1)), (1, .arr (.ints 3 .i64 b2)), (5, .int .i64 i3)], []⟩, K => laws_eqIntS_l0 A n a1 b2 i3 (fun t44 => K .ret ⟨[(4, .bool t44)], []⟩) (fun _ => K (.exit 0) ⟨[], []⟩)
  | _, _, _ => none
noncomputable def laws_eqIntS_E (A : PM.Prims) : PM.Env := ⟨[], [], [(0, [0, 1, 5], [4])], [(0, [0, 1]), (1, [0, 1, 10]), (2, [4]), (3, [0, 1, 5]), (4, [0, 1, 5, 14]), (5, [0, 1, 5]), (6, [0, 1, 5, 25]), (7, [4]), (8, [4])], laws_eqIntS_L A A.fuel⟩
theorem laws_eqIntS_l0_ok (A : PM.Prims) (n : Nat) (a1 : List Int) (b2 : List Int) (i3 : Int) (K : Go.Exit → PM.S → PM.R) : laws_eqIntS_L A (n + 1) 0 ⟨[(0, .arr (.ints 3 .i64 a1)), (1, .arr (.ints 3 .i64 b2)), (5, .int .i64 i3)], []⟩ K = PM.roundF A cx (PM.runD A cx (laws_eqIntS_E A).inl (laws_eqIntS_E A).Γ 3) (laws_eqIntS_E A) (laws_eqIntS_L A n) 0 Go.Proofs.Try.f45 ⟨[(0, .arr (.ints 3 .i64 a1)), (1, .arr (.ints 3 .i64 b2)), (5, .int .i64 i3)], []⟩ K := by kernel_rfl
theorem laws_eqIntS_ok (A : PM.Prims) (a : List Int) (b : List Int) (k : PM.V → PM.R) : PM.pfun A cx [] (laws_eqIntS_E A) Go.Proofs.Try.f45 [.arr (.ints 3 .i64 a), .arr (.ints 3 .i64 b)] k = laws_eqIntS_f A a b (fun r0 => k (.bool r0)) := by kernel_rfl

theorem laws_eqIntS_fn : PM.FnIs Try.prog 45 Try.f45 := .of Try.func45 (by kernel_rfl) (by kernel_rfl)
theorem laws_eqIntS_g : PM.GOk Try.prog cx 45 ⟨[], laws_eqIntS_w (laws_eqIntS PM.std), none⟩ := by
  refine ⟨laws_eqIntS_fn.enter, fun _ ds k r h => ?_, fun hm => absurd rfl hm, fun _ e => (by cases e)⟩
  change laws_eqIntS_w (laws_eqIntS PM.std) ds k = some r at h
  unfold laws_eqIntS_w at h
  split at h
  · exact PM.pfun_ok (E := laws_eqIntS_E PM.std) (L := fun n => laws_eqIntS_L PM.std n) (N := PM.std.fuel) cx_ok .nil mixed .nil laws_eqIntS_fn (by kernel_rfl) ⟨rfl, fun cur σ K => by
      dsimp only [laws_eqIntS_L]
      split <;> rfl, fun n cur σ K r h => by
      dsimp only [laws_eqIntS_L] at h
      split at h
      · exact (laws_eqIntS_l0_ok PM.std n _ _ _ K).symm.trans h
      · cases h⟩
      ((laws_eqIntS_ok PM.std _ _ k).trans h)
  · cases h

abbrev laws_eqHold_T := (Int) → (Int) → (Int) → (Int) → (Int) → (Int) → ((Bool) → PM.R) → PM.R
noncomputable def laws_eqHold_w (c : laws_eqHold_T) (ds : List PM.V) (k : PM.V → PM.R) : PM.R :=
  match ds with
  | [.agg [.int .i64 a_Who, .int .i64 a_What, .int .i64 a_Mode], .agg [.int .i64 b_Who, .int .i64 b_What, .int .i64 b_Mode]] => c a_Who a_What a_Mode b_Who b_What b_Mode (fun r0 => k (.bool r0))
  | _ => none
noncomputable def laws_eqHold_f (A : PM.Prims) (a_Who : Int) (a_What : Int) (a_Mode : Int) (b_Who : Int) (b_What : Int) (b_Mode : Int) (k : (Bool) → PM.R) : PM.R :=
  bif (A.not (A.eq a_Who b_Who)) then
    k false
  else
    bif (A.not (A.eq a_What b_What)) then
      k false
    else
      bif (A.not (A.eq a_Mode b_Mode)) then
        k false
      else
        k true
noncomputable def laws_eqHold (A : PM.Prims) : laws_eqHold_T := laws_eqHold_f A
noncomputable def laws_eqHold_L (A : PM.Prims) (n : Nat) : PM.Lam := fun cur σ K =>
  match cur, σ, K with
  | _, _, _ => none
noncomputable def laws_eqHold_E (A : PM.Prims) : PM.Env := ⟨[], [], [], [(0, [2, 3]), (1, [2, 3, 9]), (2, [4]), (3, [2, 3, 14]), (4, [4]), (5, [19]), (6, [4]), (7, [4])], laws_eqHold_L A A.fuel⟩
theorem laws_eqHold_ok (A : PM.Prims) (a_Who : Int) (a_What : Int) (a_Mode : Int) (b_Who : Int) (b_What : Int) (b_Mode : Int) (k : PM.V → PM.R) : PM.pfun A cx [] (laws_eqHold_E A) Go.Proofs.Try.f112 [.agg [.int .i64 a_Who, .int .i64 a_What, .int .i64 a_Mode], .agg [.int .i64 b_Who, .int .i64 b_What, .int .i64 b_Mode]] k = laws_eqHold_f A a_Who a_What a_Mode b_Who b_What b_Mode (fun r0 => k (.bool r0)) := by kernel_rfl

theorem laws_eqHold_fn : PM.FnIs Try.prog 112 Try.f112 := .of Try.func112 (by kernel_rfl) (by kernel_rfl)
theorem laws_eqHold_g : PM.GOk Try.prog cx 112 ⟨[], laws_eqHold_w (laws_eqHold PM.std), none⟩ := by
  refine ⟨laws_eqHold_fn.enter, fun _ ds k r h => ?_, fun hm => absurd rfl hm, fun _ e => (by cases e)⟩
  change laws_eqHold_w (laws_eqHold PM.std) ds k = some r at h
  unfold laws_eqHold_w at h
  split at h
  · exact PM.pfun_ok (E := laws_eqHold_E PM.std) (L := fun n => laws_eqHold_L PM.std n) (N := PM.std.fuel) cx_ok .nil mixed .nil laws_eqHold_fn (by kernel_rfl) ⟨rfl, fun _ _ _ => rfl, fun n cur σ K r h => by cases h⟩
      ((laws_eqHold_ok PM.std _ _ _ _ _ _ k).trans h)
  · cases h

abbrev laws_eqHoldS_T := (List (List Int)) → (List (List Int)) → ((Bool) → PM.R) → PM.R
noncomputable def laws_eqHoldS_w (c : laws_eqHoldS_T) (ds : List PM.V) (k : PM.V → PM.R) : PM.R :=
  match ds with
  | [.arr (.vecs 73 3 a), .arr (.vecs 73 3 b)] => c a b (fun r0 => k (.bool r0))
  | _ => none
noncomputable def laws_eqHoldS_l0 (A : PM.Prims) (c_112 : laws_eqHold_T) : Nat → (List (List Int)) → (List (List Int)) → (Int) → ((Bool) → PM.R) → (Unit → PM.R) → PM.R
  | 0, _, _, _, _, _ => none
  | n + 1, a1, b2, i3, kret_0, kx0_0 =>
    bif (A.lt i3 (A.vlen a1)) then
      bif (A.inb i3 (A.vlen a1)) then
        bif (A.inb i3 (A.vlen b2)) then
          c_112 (A.vget a1 i3 0) (A.vget a1 i3 1) (A.vget a1 i3 2) (A.vget b2 i3 0) (A.vget b2 i3 1) (A.vget b2 i3 2) (fun r4 =>
            bif (A.not r4) then
              kret_0 false
            else
              laws_eqHoldS_l0 A c_112 n a1 b2 (A.add .i64 i3 1) kret_0 kx0_0)
        else
          none
      else
        none
    else
      kx0_0 ()
noncomputable def laws_eqHoldS_f (A : PM.Prims) (c_112 : laws_eqHold_T) (a : List (List Int)) (b : List (List Int)) (k : (Bool) → PM.R) : PM.R :=
  bif (A.not (A.eq (A.vlen a) (A.vlen b))) then
    k false
  else
    laws_eqHoldS_l0 A c_112 A.fuel a b 0 (fun t456 =>
      k t456) (fun _ =>
      k true)
noncomputable def laws_eqHoldS (A : PM.Prims) : laws_eqHoldS_T := laws_eqHoldS_f A (laws_eqHold A)
noncomputable def laws_eqHoldS_L (A : PM.Prims) (c_112 : laws_eqHold_T) (n : Nat) : PM.Lam := fun cur σ K =>
  match cur, σ, K with
  | 0, ⟨[(0, .arr (.vecs 73 3 a1)), (1, .arr (.vecs 73 3 b2)), (5, .int .i64 i3)], []⟩, K => laws_eqHoldS_l0 A c_112 n a1 b2 i3 (fun t45 => K .ret ⟨[(4, .bool t45)], []⟩) (fun _ => K (.exit 0) ⟨[], []⟩)
  | _, _, _ => none
noncomputable def laws_eqHoldS_E (A : PM.Prims) (c_112 : laws_eqHold_T) : PM.Env := ⟨[(112, ⟨[], laws_eqHold_w c_112, none⟩)], [], [(0, [0, 1, 5], [4])], [(0, [0, 1]), (1, [0, 1, 10]), (2, [4]), (3, [0, 1, 5]), (4, [0, 1, 5, 14]), (5, [0, 1, 5]), (6, [0, 1, 5, 26]), (7, [4]), (8, [4])], laws_eqHoldS_L A c_112 A.fuel⟩
theorem laws_eqHoldS_l0_ok (A : PM.Prims) (c_112 : laws_eqHold_T) (n : Nat) (a1 : List (List Int)) (b2 : List (List Int)) (i3 : Int) (K : Go.Exit → PM.S → PM.R) : laws_eqHoldS_L A c_112 (n + 1) 0 ⟨[(0, .arr (.vecs 73 3 a1)), (1, .arr (.vecs 73 3 b2)), (5, .int .i64 i3)], []⟩ K = PM.roundF A cx (PM.runD A cx (laws_eqHoldS_E A c_112).inl (laws_eqHoldS_E A c_112).Γ 3) (laws_eqHoldS_E A c_112) (laws_eqHoldS_L A c_112 n) 0 Go.Proofs.Try.f40 ⟨[(0, .arr (.vecs 73 3 a1)), (1, .arr (.vecs 73 3 b2)), (5, .int .i64 i3)], []⟩ K := by kernel_rfl
theorem laws_eqHoldS_ok (A : PM.Prims) (c_112 : laws_eqHold_T) (a : List (List Int)) (b : List (List Int)) (k : PM.V → PM.R) : PM.pfun A cx [] (laws_eqHoldS_E A c_112) Go.Proofs.Try.f40 [.arr (.vecs 73 3 a), .arr (.vecs 73 3 b)] k = laws_eqHoldS_f A c_112 a b (fun r0 => k (.bool r0)) := by kernel_rfl

theorem laws_eqHoldS_fn : PM.FnIs Try.prog 40 Try.f40 := .of Try.func40 (by kernel_rfl) (by kernel_rfl)
theorem laws_eqHoldS_g : PM.GOk Try.prog cx 40 ⟨[], laws_eqHoldS_w (laws_eqHoldS PM.std), none⟩ := by
  refine ⟨laws_eqHoldS_fn.enter, fun _ ds k r h => ?_, fun hm => absurd rfl hm, fun _ e => (by cases e)⟩
  change laws_eqHoldS_w (laws_eqHoldS PM.std) ds k = some r at h
  unfold laws_eqHoldS_w at h
  split at h
  · exact PM.pfun_ok (E := laws_eqHoldS_E PM.std (laws_eqHold PM.std)) (L := fun n => laws_eqHoldS_L PM.std (laws_eqHold PM.std) n) (N := PM.std.fuel) cx_ok (.cons laws_eqHold_g .nil) mixed .nil laws_eqHoldS_fn (by kernel_rfl) ⟨rfl, fun cur σ K => by
      dsimp only [laws_eqHoldS_L]
      split <;> rfl, fun n cur σ K r h => by
      dsimp only [laws_eqHoldS_L] at h
      split at h
      · exact (laws_eqHoldS_l0_ok PM.std (laws_eqHold PM.std) n _ _ _ K).symm.trans h
      · cases h⟩
      ((laws_eqHoldS_ok PM.std (laws_eqHold PM.std) _ _ k).trans h)
  · cases h

abbrev laws_markHoldS_T := (List (List Int)) → (Int) → ((Int) → (List (List Int)) → PM.R) → PM.R
noncomputable def laws_markHoldS_w (c : laws_markHoldS_T) (ds : List PM.V) (k : PM.V → PM.R) : PM.R :=
  match ds with
  | [.arr (.vecs 73 3 a), .int .i64 k_] => c a k_ (fun r0 o0 => k (.tup [.int .i64 r0, .arr (.vecs 73 3 o0)]))
  | _ => none
noncomputable def laws_markHoldS_l0 (A : PM.Prims) : Nat → (Int) → (Int) → (List (List Int)) → ((Int) → (List (List Int)) → PM.R) → PM.R
  | 0, _, _, _, _ => none
  | n + 1, k1, i2, o03, kx0_0 =>
    bif (A.lt i2 (A.vlen o03)) then
      bif (A.inb i2 (A.vlen o03)) then
        bif (A.inb i2 (A.vlen (A.vset o03 i2 0 k1))) then
          bif (A.inb i2 (A.vlen (A.vset (A.vset o03 i2 0 k1) i2 1 (A.add .i64 k1 1)))) then
            laws_markHoldS_l0 A n (A.add .i64 (A.add .i64 (A.add .i64 k1 1) 1) 1) (A.add .i64 i2 1) (A.vset (A.vset (A.vset o03 i2 0 k1) i2 1 (A.add .i64 k1 1)) i2 2 (A.add .i64 (A.add .i64 k1 1) 1)) kx0_0
          else
            none
        else
          none
      else
        none
    else
      kx0_0 k1 o03
noncomputable def laws_markHoldS_f (A : PM.Prims) (a : List (List Int)) (k_ : Int) (k : (Int) → (List (List Int)) → PM.R) : PM.R :=
  laws_markHoldS_l0 A A.fuel k_ 0 a (fun k46 o057 =>
    k k46 o057)
noncomputable def laws_markHoldS (A : PM.Prims) : laws_markHoldS_T := laws_markHoldS_f A
noncomputable def laws_markHoldS_L (A : PM.Prims) (n : Nat) : PM.Lam := fun cur σ K =>
  match cur, σ, K with
  | 0, ⟨[(0, .sref 0), (1, .int .i64 k1), (5, .int .i64 i2)], [(0, .arr false (.vecs 73 3 o03))]⟩, K => laws_markHoldS_l0 A n k1 i2 o03 (fun k4 o05 => K (.exit 0) ⟨[(0, .sref 0), (1, .int .i64 k4)], [(0, .arr false (.vecs 73 3 o05))]⟩)
  | _, _, _ => none
noncomputable def laws_markHoldS_E (A : PM.Prims) : PM.Env := ⟨[], [], [(0, [0, 1, 5], [0, 1, 4])], [(0, [0, 1]), (1, [0, 1, 5]), (2, [0, 1, 5, 9]), (3, [0, 1, 5]), (4, [0, 1, 5]), (5, [0, 1, 5]), (6, [0, 1, 5]), (7, [0, 1, 5]), (8, [0, 1, 5]), (9, [0, 1, 5]), (10, [0, 4])], laws_markHoldS_L A A.fuel⟩
theorem laws_markHoldS_l0_ok (A : PM.Prims) (n : Nat) (k1 : Int) (i2 : Int) (o03 : List (List Int)) (K : Go.Exit → PM.S → PM.R) : laws_markHoldS_L A (n + 1) 0 ⟨[(0, .sref 0), (1, .int .i64 k1), (5, .int .i64 i2)], [(0, .arr false (.vecs 73 3 o03))]⟩ K = PM.roundF A cx (PM.runD A cx (laws_markHoldS_E A).inl (laws_markHoldS_E A).Γ 3) (laws_markHoldS_E A) (laws_markHoldS_L A n) 0 Go.Proofs.Try.f46 ⟨[(0, .sref 0), (1, .int .i64 k1), (5, .int .i64 i2)], [(0, .arr false (.vecs 73 3 o03))]⟩ K := by kernel_rfl
theorem laws_markHoldS_ok (A : PM.Prims) (a : List (List Int)) (k_ : Int) (k : PM.V → PM.R) : PM.pfun A cx [true, false] (laws_markHoldS_E A) Go.Proofs.Try.f46 [.arr (.vecs 73 3 a), .int .i64 k_] k = laws_markHoldS_f A a k_ (fun r0 o0 => k (.tup [.int .i64 r0, .arr (.vecs 73 3 o0)])) := by kernel_rfl

theorem laws_markHoldS_fn : PM.FnIs Try.prog 46 Try.f46 := .of Try.func46 (by kernel_rfl) (by kernel_rfl)
theorem laws_markHoldS_g : PM.GOk Try.prog cx 46 ⟨[true, false], laws_markHoldS_w (laws_markHoldS PM.std), none⟩ := by
  refine ⟨laws_markHoldS_fn.enter, fun hm => (by cases hm), fun _ ds k r h => ?_, fun _ e => (by cases e)⟩
  change laws_markHoldS_w (laws_markHoldS PM.std) ds k = some r at h
  unfold laws_markHoldS_w at h
  split at h
  · exact PM.pfun_okM (List.cons_ne_nil _ _) (E := laws_markHoldS_E PM.std) (L := fun n => laws_markHoldS_L PM.std n) (N := PM.std.fuel) cx_ok .nil mixed .nil laws_markHoldS_fn (by kernel_rfl) ⟨rfl, fun cur σ K => by
      dsimp only [laws_markHoldS_L]
      split <;> rfl, fun n cur σ K r h => by
      dsimp only [laws_markHoldS_L] at h
      split at h
      · exact (laws_markHoldS_l0_ok PM.std n _ _ _ K).symm.trans h
      · cases h⟩
      ((laws_markHoldS_ok PM.std _ _ k).trans h)
  · cases h

abbrev laws_markIntS_T := (List Int) → (Int) → ((Int) → (List Int) → PM.R) → PM.R
noncomputable def laws_markIntS_w (c : laws_markIntS_T) (ds : List PM.V) (k : PM.V → PM.R) : PM.R :=
  match ds with
  | [.arr (.ints 3 .i64 a), .int .i64 k_] => c a k_ (fun r0 o0 => k (.tup [.int .i64 r0, .arr (.ints 3 .i64 o0)]))
  | _ => none
noncomputable def laws_markIntS_l0 (A : PM.Prims) : Nat → (Int) → (Int) → (List Int) → ((Int) → (List Int) → PM.R) → PM.R
  | 0, _, _, _, _ => none
  | n + 1, k1, i2, o03, kx0_0 =>
    bif (A.lt i2 (A.ilen o03)) then
      bif (A.inb i2 (A.ilen o03)) then
        laws_markIntS_l0 A n (A.add .i64 k1 1) (A.add .i64 i2 1) (A.iset o03 i2 k1) kx0_0
      else
        none
    else
      kx0_0 k1 o03
noncomputable def laws_markIntS_f (A : PM.Prims) (a : List Int) (k_ : Int) (k : (Int) → (List Int) → PM.R) : PM.R :=
  laws_markIntS_l0 A A.fuel k_ 0 a (fun k46 o057 =>
    k k46 o057)
noncomputable def laws_markIntS (A : PM.Prims) : laws_markIntS_T := laws_markIntS_f A
noncomputable def laws_markIntS_L (A : PM.Prims) (n : Nat) : PM.Lam := fun cur σ K =>
  match cur, σ, K with
  | 0, ⟨[(0, .sref 0), (1, .int .i64 k1), (5, .int .i64 i2)], [(0, .arr false (.ints 3 .i64 o03))]⟩, K => laws_markIntS_l0 A n k1 i2 o03 (fun k4 o05 => K (.exit 0) ⟨[(0, .sref 0), (1, .int .i64 k4)], [(0, .arr false (.ints 3 .i64 o05))]⟩)
  | _, _, _ => none
noncomputable def laws_markIntS_E (A : PM.Prims) : PM.Env := ⟨[], [], [(0, [0, 1, 5], [0, 1, 4])], [(0, [0, 1]), (1, [0, 1, 5]), (2, [0, 1, 5, 9]), (3, [0, 1, 5]), (4, [0, 1, 5]), (5, [0, 1, 5]), (6, [0, 4])], laws_markIntS_L A A.fuel⟩
theorem laws_markIntS_l0_ok (A : PM.Prims) (n : Nat) (k1 : Int) (i2 : Int) (o03 : List Int) (K : Go.Exit → PM.S → PM.R) : laws_markIntS_L A (n + 1) 0 ⟨[(0, .sref 0), (1, .int .i64 k1), (5, .int .i64 i2)], [(0, .arr false (.ints 3 .i64 o03))]⟩ K = PM.roundF A cx (PM.runD A cx (laws_markIntS_E A).inl (laws_markIntS_E A).Γ 3) (laws_markIntS_E A) (laws_markIntS_L A n) 0 Go.Proofs.Try.f47 ⟨[(0, .sref 0), (1, .int .i64 k1), (5, .int .i64 i2)], [(0, .arr false (.ints 3 .i64 o03))]⟩ K := by kernel_rfl
theorem laws_markIntS_ok (A : PM.Prims) (a : List Int) (k_ : Int) (k : PM.V → PM.R) : PM.pfun A cx [true, false] (laws_markIntS_E A) Go.Proofs.Try.f47 [.arr (.ints 3 .i64 a), .int .i64 k_] k = laws_markIntS_f A a k_ (fun r0 o0 => k (.tup [.int .i64 r0, .arr (.ints 3 .i64 o0)])) := by kernel_rfl

theorem laws_markIntS_fn : PM.FnIs Try.prog 47 Try.f47 := .of Try.func47 (by kernel_rfl) (by kernel_rfl)
theorem laws_markIntS_g : PM.GOk Try.prog cx 47 ⟨[true, false], laws_markIntS_w (laws_markIntS PM.std), none⟩ := by
  refine ⟨laws_markIntS_fn.enter, fun hm => (by cases hm), fun _ ds k r h => ?_, fun _ e => (by cases e)⟩
  change laws_markIntS_w (laws_markIntS PM.std) ds k = some r at h
  unfold laws_markIntS_w at h
  split at h
  · exact PM.pfun_okM (List.cons_ne_nil _ _) (E := laws_markIntS_E PM.std) (L := fun n => laws_markIntS_L PM.std n) (N := PM.std.fuel) cx_ok .nil mixed .nil laws_markIntS_fn (by kernel_rfl) ⟨rfl, fun cur σ K => by
      dsimp only [laws_markIntS_L]
      split <;> rfl, fun n cur σ K r h => by
      dsimp only [laws_markIntS_L] at h
      split at h
      · exact (laws_markIntS_l0_ok PM.std n _ _ _ K).symm.trans h
      · cases h⟩
      ((laws_markIntS_ok PM.std _ _ k).trans h)
  · cases h

abbrev laws_heldIntS_T := (List Int) → (Int) → ((Int) → PM.R) → PM.R
noncomputable def laws_heldIntS_w (c : laws_heldIntS_T) (ds : List PM.V) (k : PM.V → PM.R) : PM.R :=
  match ds with
  | [.arr (.ints 3 .i64 a), .int .i64 k_] => c a k_ (fun r0 => k (.int .i64 r0))
  | _ => none
noncomputable def laws_heldIntS_l0 (A : PM.Prims) : Nat → (List Int) → (Int) → (Int) → ((Int) → PM.R) → ((Int) → PM.R) → PM.R
  | 0, _, _, _, _, _ => none
  | n + 1, a1, k2, i3, kret_0, kx0_0 =>
    bif (A.lt i3 (A.ilen a1)) then
      bif (A.inb i3 (A.ilen a1)) then
        bif (A.not (A.eq (A.iget a1 i3) k2)) then
          kret_0 (-1)
        else
          laws_heldIntS_l0 A n a1 (A.add .i64 k2 1) (A.add .i64 i3 1) kret_0 kx0_0
      else
        none
    else
      kx0_0 k2
noncomputable def laws_heldIntS_f (A : PM.Prims) (a : List Int) (k_ : Int) (k : (Int) → PM.R) : PM.R :=
  laws_heldIntS_l0 A A.fuel a k_ 0 (fun t446 =>
    k t446) (fun k57 =>
    k k57)
noncomputable def laws_heldIntS (A : PM.Prims) : laws_heldIntS_T := laws_heldIntS_f A
noncomputable def laws_heldIntS_L (A : PM.Prims) (n : Nat) : PM.Lam := fun cur σ K =>
  match cur, σ, K with
  | 0, ⟨[(0, .arr (.ints 3 .i64 a1)), (1, .int .i64 k2), (5, .int .i64 i3)], []⟩, K => laws_heldIntS_l0 A n a1 k2 i3 (fun t44 => K .ret ⟨[(4, .int .i64 t44)], []⟩) (fun k5 => K (.exit 0) ⟨[(1, .int .i64 k5)], []⟩)
  | _, _, _ => none
noncomputable def laws_heldIntS_E (A : PM.Prims) : PM.Env := ⟨[], [], [(0, [0, 1, 5], [1, 4])], [(0, [0, 1]), (1, [0, 1, 5]), (2, [0, 1, 5, 9]), (3, [0, 1, 5]), (4, [0, 1, 5, 17]), (5, [4]), (6, [0, 1, 5]), (7, [4])], laws_heldIntS_L A A.fuel⟩
theorem laws_heldIntS_l0_ok (A : PM.Prims) (n : Nat) (a1 : List Int) (k2 : Int) (i3 : Int) (K : Go.Exit → PM.S → PM.R) : laws_heldIntS_L A (n + 1) 0 ⟨[(0, .arr (.ints 3 .i64 a1)), (1, .int .i64 k2), (5, .int .i64 i3)], []⟩ K = PM.roundF A cx (PM.runD A cx (laws_heldIntS_E A).inl (laws_heldIntS_E A).Γ 3) (laws_heldIntS_E A) (laws_heldIntS_L A n) 0 Go.Proofs.Try.f48 ⟨[(0, .arr (.ints 3 .i64 a1)), (1, .int .i64 k2), (5, .int .i64 i3)], []⟩ K := by kernel_rfl
theorem laws_heldIntS_ok (A : PM.Prims) (a : List Int) (k_ : Int) (k : PM.V → PM.R) : PM.pfun A cx [] (laws_heldIntS_E A) Go.Proofs.Try.f48 [.arr (.ints 3 .i64 a), .int .i64 k_] k = laws_heldIntS_f A a k_ (fun r0 => k (.int .i64 r0)) := by kernel_rfl

theorem laws_heldIntS_fn : PM.FnIs Try.prog 48 Try.f48 := .of Try.func48 (by kernel_rfl) (by kernel_rfl)
theorem laws_heldIntS_g : PM.GOk Try.prog cx 48 ⟨[], laws_heldIntS_w (laws_heldIntS PM.std), none⟩ := by
  refine ⟨laws_heldIntS_fn.enter, fun _ ds k r h => ?_, fun hm => absurd rfl hm, fun _ e => (by cases e)⟩
  change laws_heldIntS_w (laws_heldIntS PM.std) ds k = some r at h
  unfold laws_heldIntS_w at h
  split at h
  · exact PM.pfun_ok (E := laws_heldIntS_E PM.std) (L := fun n => laws_heldIntS_L PM.std n) (N := PM.std.fuel) cx_ok .nil mixed .nil laws_heldIntS_fn (by kernel_rfl) ⟨rfl, fun cur σ K => by
      dsimp only [laws_heldIntS_L]
      split <;> rfl, fun n cur σ K r h => by
      dsimp only [laws_heldIntS_L] at h
      split at h
      · exact (laws_heldIntS_l0_ok PM.std n _ _ _ K).symm.trans h
      · cases h⟩
      ((laws_heldIntS_ok PM.std _ _ k).trans h)
  · cases h

abbrev laws_FnExactBlocks_T := (List (List Int)) → (Int) → (Int) → (Int) → ((Bool) → PM.R) → PM.R
noncomputable def laws_FnExactBlocks_w (c : laws_FnExactBlocks_T) (ds : List PM.V) (k : PM.V → PM.R) : PM.R :=
  match ds with
  | [.arr (.vecs 124 3 __), .int .i64 a, .int .i64 r, .int .i64 r_3] => c __ a r r_3 (fun r0 => k (.bool r0))
  | _ => none
noncomputable def laws_FnExactBlocks_f (A : PM.Prims) (c_36 : laws_szHoldS_T) (c_38 : laws_toHoldS_T) (c_43 : spec_Blocks_T) (c_44 : impl_Blocks_T) (c_45 : laws_eqIntS_T) (c_40 : laws_eqHoldS_T) (c_46 : laws_markHoldS_T) (c_47 : laws_markIntS_T) (c_48 : laws_heldIntS_T) (__ : List (List Int)) (a : Int) (r : Int) (r_3 : Int) (k : (Bool) → PM.R) : PM.R :=
  c_36 __ 1048576 (fun r1 =>
    bif (A.lt r1 0) then
      k true
    else
      c_38 __ (fun r2 =>
        c_43 r2 a r r_3 (fun r3 =>
          c_38 __ (fun r4 =>
            c_44 r4 a r r_3 (fun r5 =>
              c_45 r5 r3 (fun r6 =>
                bif (A.not r6) then
                  k false
                else
                  c_38 __ (fun r7 =>
                    c_40 r4 r7 (fun r8 =>
                      bif (A.not r8) then
                        k false
                      else
                        c_46 r4 1 (fun r9 r10 =>
                          bif (A.lt r9 0) then
                            k false
                          else
                            c_45 r5 r3 (fun r11 =>
                              bif (A.not r11) then
                                k false
                              else
                                c_47 r5 1 (fun r12 r13 =>
                                  c_48 r13 1 (fun r14 =>
                                    bif (A.lt r14 0) then
                                      k false
                                    else
                                      bif (A.not (A.eq r14 r12)) then
                                        k false
                                      else
                                        c_38 __ (fun r15 =>
                                          c_44 r15 a r r_3 (fun r16 =>
                                            c_45 r16 r3 (fun r17 =>
                                              bif (A.not r17) then
                                                k false
                                              else
                                                c_48 r13 1 (fun r18 =>
                                                  bif (A.lt r18 0) then
                                                    k false
                                                  else
                                                    bif (A.not (A.eq r18 r12)) then
                                                      k false
                                                    else
                                                      k true))))))))))))))))
noncomputable def laws_FnExactBlocks (A : PM.Prims) : laws_FnExactBlocks_T := laws_FnExactBlocks_f A (laws_szHoldS A) (laws_toHoldS A) (spec_Blocks A) (impl_Blocks A) (laws_eqIntS A) (laws_eqHoldS A) (laws_markHoldS A) (laws_markIntS A) (laws_heldIntS A)
noncomputable def laws_FnExactBlocks_L (A : PM.Prims) (c_36 : laws_szHoldS_T) (c_38 : laws_toHoldS_T) (c_43 : spec_Blocks_T) (c_44 : impl_Blocks_T) (c_45 : laws_eqIntS_T) (c_40 : laws_eqHoldS_T) (c_46 : laws_markHoldS_T) (c_47 : laws_markIntS_T) (c_48 : laws_heldIntS_T) (n : Nat) : PM.Lam := fun cur σ K =>
  match cur, σ, K with
  | _, _, _ => none
noncomputable def laws_FnExactBlocks_E (A : PM.Prims) (c_36 : laws_szHoldS_T) (c_38 : laws_toHoldS_T) (c_43 : spec_Blocks_T) (c_44 : impl_Blocks_T) (c_45 : laws_eqIntS_T) (c_40 : laws_eqHoldS_T) (c_46 : laws_markHoldS_T) (c_47 : laws_markIntS_T) (c_48 : laws_heldIntS_T) : PM.Env := ⟨[(36, ⟨[], laws_szHoldS_w c_36, none⟩), (38, ⟨[], laws_toHoldS_w c_38, none⟩), (43, ⟨[], spec_Blocks_w c_43, none⟩), (44, ⟨[], impl_Blocks_w c_44, none⟩), (45, ⟨[], laws_eqIntS_w c_45, none⟩), (40, ⟨[], laws_eqHoldS_w c_40, none⟩), (46, ⟨[true, false], laws_markHoldS_w c_46, none⟩), (47, ⟨[true, false], laws_markIntS_w c_47, none⟩), (48, ⟨[], laws_heldIntS_w c_48, none⟩)], [], [], [(0, [0, 1, 2, 3]), (1, [0, 1, 2, 3, 9]), (2, [0, 1, 2, 3, 9]), (3, [0, 1, 2, 3, 21]), (4, [8]), (5, [0, 1, 2, 3, 10]), (6, [0, 1, 2, 3, 10, 11]), (7, [0, 1, 2, 3, 10, 11, 12]), (8, [0, 1, 2, 3, 10, 11, 12, 38]), (9, [8]), (10, [0, 1, 2, 3, 10, 11, 12, 43]), (11, [8]), (12, [0, 1, 2, 3, 10, 11, 12, 13]), (13, [0, 1, 2, 3, 10, 12, 13]), (14, [0, 1, 2, 3, 10, 12, 54]), (15, [8]), (16, [0, 1, 2, 3, 10, 12, 14]), (17, [0, 1, 2, 3, 10, 12, 14]), (18, [0, 1, 2, 3, 10, 12, 14, 15]), (19, [0, 1, 2, 3, 10, 12, 14, 15]), (20, [0, 1, 2, 3, 10, 12, 14, 15, 62]), (21, [8]), (22, [0, 1, 2, 3, 10, 12, 14, 65]), (23, [8]), (24, [10, 12, 14, 16]), (25, [12, 14, 75]), (26, [8]), (27, [12, 14, 15]), (28, [14, 15]), (29, [14, 15, 80]), (30, [8]), (31, [83]), (32, [8]), (33, [8])], laws_FnExactBlocks_L A c_36 c_38 c_43 c_44 c_45 c_40 c_46 c_47 c_48 A.fuel⟩
theorem laws_FnExactBlocks_ok (A : PM.Prims) (c_36 : laws_szHoldS_T) (c_38 : laws_toHoldS_T) (c_43 : spec_Blocks_T) (c_44 : impl_Blocks_T) (c_45 : laws_eqIntS_T) (c_40 : laws_eqHoldS_T) (c_46 : laws_markHoldS_T) (c_47 : laws_markIntS_T) (c_48 : laws_heldIntS_T) (__ : List (List Int)) (a : Int) (r : Int) (r_3 : Int) (k : PM.V → PM.R) : PM.pfun A cx [] (laws_FnExactBlocks_E A c_36 c_38 c_43 c_44 c_45 c_40 c_46 c_47 c_48) Go.Proofs.Try.f9 [.arr (.vecs 124 3 __), .int .i64 a, .int .i64 r, .int .i64 r_3] k = laws_FnExactBlocks_f A c_36 c_38 c_43 c_44 c_45 c_40 c_46 c_47 c_48 __ a r r_3 (fun r0 => k (.bool r0)) := by kernel_rfl

theorem laws_FnExactBlocks_fn : PM.FnIs Try.prog 9 Try.f9 := .of Try.func9 (by kernel_rfl) (by kernel_rfl)
theorem laws_FnExactBlocks_g : PM.GOk Try.prog cx 9 ⟨[], laws_FnExactBlocks_w (laws_FnExactBlocks PM.std), none⟩ := by
  refine ⟨laws_FnExactBlocks_fn.enter, fun _ ds k r h => ?_, fun hm => absurd rfl hm, fun _ e => (by cases e)⟩
  change laws_FnExactBlocks_w (laws_FnExactBlocks PM.std) ds k = some r at h
  unfold laws_FnExactBlocks_w at h
  split at h
  · exact PM.pfun_ok (E := laws_FnExactBlocks_E PM.std (laws_szHoldS PM.std) (laws_toHoldS PM.std) (spec_Blocks PM.std) (impl_Blocks PM.std) (laws_eqIntS PM.std) (laws_eqHoldS PM.std) (laws_markHoldS PM.std) (laws_markIntS PM.std) (laws_heldIntS PM.std)) (L := fun n => laws_FnExactBlocks_L PM.std (laws_szHoldS PM.std) (laws_toHoldS PM.std) (spec_Blocks PM.std) (impl_Blocks PM.std) (laws_eqIntS PM.std) (laws_eqHoldS PM.std) (laws_markHoldS PM.std) (laws_markIntS PM.std) (laws_heldIntS PM.std) n) (N := PM.std.fuel) cx_ok (.cons laws_szHoldS_g (.cons laws_toHoldS_g (.cons spec_Blocks_g (.cons impl_Blocks_g (.cons laws_eqIntS_g (.cons laws_eqHoldS_g (.cons laws_markHoldS_g (.cons laws_markIntS_g (.cons laws_heldIntS_g .nil))))))))) mixed .nil laws_FnExactBlocks_fn (by kernel_rfl) ⟨rfl, fun _ _ _ => rfl, fun n cur σ K r h => by cases h⟩
      ((laws_FnExactBlocks_ok PM.std (laws_szHoldS PM.std) (laws_toHoldS PM.std) (spec_Blocks PM.std) (impl_Blocks PM.std) (laws_eqIntS PM.std) (laws_eqHoldS PM.std) (laws_markHoldS PM.std) (laws_markIntS PM.std) (laws_heldIntS PM.std) _ _ _ _ k).trans h)
  · cases h

abbrev spec_HoldOf_T := (List (List Int)) → (Int) → (Int) → ((Int) → PM.R) → PM.R
noncomputable def spec_HoldOf_w (c : spec_HoldOf_T) (ds : List PM.V) (k : PM.V → PM.R) : PM.R :=
  match ds with
  | [.arr (.vecs 73 3 l), .int .i64 who, .int .i64 what] => c l who what (fun r0 => k (.int .i64 r0))
  | _ => none
noncomputable def spec_HoldOf_l0 (A : PM.Prims) (c_37 : spec_HoldsOk_T) : Nat → (List (List Int)) → (Int) → (Int) → (Int) → ((Int) → PM.R) → (Unit → PM.R) → PM.R
  | 0, _, _, _, _, _, _ => none
  | n + 1, l2, who3, what4, i5, kret_0, kx0_0 =>
    bif (A.lt i5 (A.vlen l2)) then
      bif (A.inb i5 (A.vlen l2)) then
        bif (A.eq (A.vget l2 i5 0) who3) then
          bif (A.inb i5 (A.vlen l2)) then
            bif (A.eq (A.vget l2 i5 1) what4) then
              bif (A.inb i5 (A.vlen l2)) then
                kret_0 (A.vget l2 i5 2)
              else
                none
            else
              spec_HoldOf_l0 A c_37 n l2 who3 what4 (A.add .i64 i5 1) kret_0 kx0_0
          else
            none
        else
          spec_HoldOf_l0 A c_37 n l2 who3 what4 (A.add .i64 i5 1) kret_0 kx0_0
      else
        none
    else
      kx0_0 ()
noncomputable def spec_HoldOf_f (A : PM.Prims) (c_37 : spec_HoldsOk_T) (l : List (List Int)) (who : Int) (what : Int) (k : (Int) → PM.R) : PM.R :=
  c_37 l (fun r1 =>
    bif (A.not r1) then
      k 0
    else
      spec_HoldOf_l0 A c_37 A.fuel l who what 0 (fun t667 =>
        k t667) (fun _ =>
        k 0))
noncomputable def spec_HoldOf (A : PM.Prims) : spec_HoldOf_T := spec_HoldOf_f A (spec_HoldsOk A)
noncomputable def spec_HoldOf_L (A : PM.Prims) (c_37 : spec_HoldsOk_T) (n : Nat) : PM.Lam := fun cur σ K =>
  match cur, σ, K with
  | 0, ⟨[(0, .arr (.vecs 73 3 l2)), (1, .int .i64 who3), (2, .int .i64 what4), (7, .int .i64 i5)], []⟩, K => spec_HoldOf_l0 A c_37 n l2 who3 what4 i5 (fun t66 => K .ret ⟨[(6, .int .i64 t66)], []⟩) (fun _ => K (.exit 0) ⟨[], []⟩)
  | _, _, _ => none
noncomputable def spec_HoldOf_E (A : PM.Prims) (c_37 : spec_HoldsOk_T) : PM.Env := ⟨[(37, ⟨[], spec_HoldsOk_w c_37, none⟩)], [], [(0, [0, 1, 2, 7], [6])], [(0, [0, 1, 2]), (1, [0, 1, 2, 10]), (2, [6]), (3, [0, 1, 2, 7]), (4, [0, 1, 2, 7, 14]), (5, [0, 1, 2, 7]), (6, [0, 1, 2, 7, 32]), (7, [6]), (8, [6])], spec_HoldOf_L A c_37 A.fuel⟩
theorem spec_HoldOf_l0_ok (A : PM.Prims) (c_37 : spec_HoldsOk_T) (n : Nat) (l2 : List (List Int)) (who3 : Int) (what4 : Int) (i5 : Int) (K : Go.Exit → PM.S → PM.R) : spec_HoldOf_L A c_37 (n + 1) 0 ⟨[(0, .arr (.vecs 73 3 l2)), (1, .int .i64 who3), (2, .int .i64 what4), (7, .int .i64 i5)], []⟩ K = PM.roundF A cx (PM.runD A cx (spec_HoldOf_E A c_37).inl (spec_HoldOf_E A c_37).Γ 3) (spec_HoldOf_E A c_37) (spec_HoldOf_L A c_37 n) 0 Go.Proofs.Try.f41 ⟨[(0, .arr (.vecs 73 3 l2)), (1, .int .i64 who3), (2, .int .i64 what4), (7, .int .i64 i5)], []⟩ K := by kernel_rfl
theorem spec_HoldOf_ok (A : PM.Prims) (c_37 : spec_HoldsOk_T) (l : List (List Int)) (who : Int) (what : Int) (k : PM.V → PM.R) : PM.pfun A cx [] (spec_HoldOf_E A c_37) Go.Proofs.Try.f41 [.arr (.vecs 73 3 l), .int .i64 who, .int .i64 what] k = spec_HoldOf_f A c_37 l who what (fun r0 => k (.int .i64 r0)) := by kernel_rfl

theorem spec_HoldOf_fn : PM.FnIs Try.prog 41 Try.f41 := .of Try.func41 (by kernel_rfl) (by kernel_rfl)
theorem spec_HoldOf_g : PM.GOk Try.prog cx 41 ⟨[], spec_HoldOf_w (spec_HoldOf PM.std), none⟩ := by
  refine ⟨spec_HoldOf_fn.enter, fun _ ds k r h => ?_, fun hm => absurd rfl hm, fun _ e => (by cases e)⟩
  change spec_HoldOf_w (spec_HoldOf PM.std) ds k = some r at h
  unfold spec_HoldOf_w at h
  split at h
  · exact PM.pfun_ok (E := spec_HoldOf_E PM.std (spec_HoldsOk PM.std)) (L := fun n => spec_HoldOf_L PM.std (spec_HoldsOk PM.std) n) (N := PM.std.fuel) cx_ok (.cons spec_HoldsOk_g .nil) mixed .nil spec_HoldOf_fn (by kernel_rfl) ⟨rfl, fun cur σ K => by
      dsimp only [spec_HoldOf_L]
      split <;> rfl, fun n cur σ K r h => by
      dsimp only [spec_HoldOf_L] at h
      split at h
      · exact (spec_HoldOf_l0_ok PM.std (spec_HoldsOk PM.std) n _ _ _ _ K).symm.trans h
      · cases h⟩
      ((spec_HoldOf_ok PM.std (spec_HoldsOk PM.std) _ _ _ k).trans h)
  · cases h

abbrev laws_szRowS_T := (List (List Int)) → (Int) → ((Int) → PM.R) → PM.R
noncomputable def laws_szRowS_w (c : laws_szRowS_T) (ds : List PM.V) (k : PM.V → PM.R) : PM.R :=
  match ds with
  | [.arr (.vecs 139 2 a), .int .i64 left] => c a left (fun r0 => k (.int .i64 r0))
  | _ => none
noncomputable def laws_szRowS_f (A : PM.Prims) (a : List (List Int)) (left : Int) (k : (Int) → PM.R) : PM.R :=
  bif (A.lt (A.sub .i64 left (A.vlen a)) 0) then
    k (-1)
  else
    k (A.sub .i64 left (A.vlen a))
noncomputable def laws_szRowS (A : PM.Prims) : laws_szRowS_T := laws_szRowS_f A
noncomputable def laws_szRowS_L (A : PM.Prims) (n : Nat) : PM.Lam := fun cur σ K =>
  match cur, σ, K with
  | _, _, _ => none
noncomputable def laws_szRowS_E (A : PM.Prims) : PM.Env := ⟨[], [], [], [(0, [0, 1]), (1, [1]), (2, [1, 10]), (3, [4]), (4, [4])], laws_szRowS_L A A.fuel⟩
theorem laws_szRowS_ok (A : PM.Prims) (a : List (List Int)) (left : Int) (k : PM.V → PM.R) : PM.pfun A cx [] (laws_szRowS_E A) Go.Proofs.Try.f66 [.arr (.vecs 139 2 a), .int .i64 left] k = laws_szRowS_f A a left (fun r0 => k (.int .i64 r0)) := by kernel_rfl

theorem laws_szRowS_fn : PM.FnIs Try.prog 66 Try.f66 := .of Try.func66 (by kernel_rfl) (by kernel_rfl)
theorem laws_szRowS_g : PM.GOk Try.prog cx 66 ⟨[], laws_szRowS_w (laws_szRowS PM.std), none⟩ := by
  refine ⟨laws_szRowS_fn.enter, fun _ ds k r h => ?_, fun hm => absurd rfl hm, fun _ e => (by cases e)⟩
  change laws_szRowS_w (laws_szRowS PM.std) ds k = some r at h
  unfold laws_szRowS_w at h
  split at h
  · exact PM.pfun_ok (E := laws_szRowS_E PM.std) (L := fun n => laws_szRowS_L PM.std n) (N := PM.std.fuel) cx_ok .nil mixed .nil laws_szRowS_fn (by kernel_rfl) ⟨rfl, fun _ _ _ => rfl, fun n cur σ K r h => by cases h⟩
      ((laws_szRowS_ok PM.std _ _ k).trans h)
  · cases h

abbrev laws_szIntS_T := (List Int) → (Int) → ((Int) → PM.R) → PM.R
noncomputable def laws_szIntS_w (c : laws_szIntS_T) (ds : List PM.V) (k : PM.V → PM.R) : PM.R :=
  match ds with
  | [.arr (.ints 3 .i64 a), .int .i64 left] => c a left (fun r0 => k (.int .i64 r0))
  | _ => none
noncomputable def laws_szIntS_f (A : PM.Prims) (a : List Int) (left : Int) (k : (Int) → PM.R) : PM.R :=
  bif (A.lt (A.sub .i64 left (A.ilen a)) 0) then
    k (-1)
  else
    k (A.sub .i64 left (A.ilen a))
noncomputable def laws_szIntS (A : PM.Prims) : laws_szIntS_T := laws_szIntS_f A
noncomputable def laws_szIntS_L (A : PM.Prims) (n : Nat) : PM.Lam := fun cur σ K =>
  match cur, σ, K with
  | _, _, _ => none
noncomputable def laws_szIntS_E (A : PM.Prims) : PM.Env := ⟨[], [], [], [(0, [0, 1]), (1, [1]), (2, [1, 10]), (3, [4]), (4, [4])], laws_szIntS_L A A.fuel⟩
theorem laws_szIntS_ok (A : PM.Prims) (a : List Int) (left : Int) (k : PM.V → PM.R) : PM.pfun A cx [] (laws_szIntS_E A) Go.Proofs.Try.f119 [.arr (.ints 3 .i64 a), .int .i64 left] k = laws_szIntS_f A a left (fun r0 => k (.int .i64 r0)) := by kernel_rfl

theorem laws_szIntS_fn : PM.FnIs Try.prog 119 Try.f119 := .of Try.func119 (by kernel_rfl) (by kernel_rfl)
theorem laws_szIntS_g : PM.GOk Try.prog cx 119 ⟨[], laws_szIntS_w (laws_szIntS PM.std), none⟩ := by
  refine ⟨laws_szIntS_fn.enter, fun _ ds k r h => ?_, fun hm => absurd rfl hm, fun _ e => (by cases e)⟩
  change laws_szIntS_w (laws_szIntS PM.std) ds k = some r at h
  unfold laws_szIntS_w at h
  split at h
  · exact PM.pfun_ok (E := laws_szIntS_E PM.std) (L := fun n => laws_szIntS_L PM.std n) (N := PM.std.fuel) cx_ok .nil mixed .nil laws_szIntS_fn (by kernel_rfl) ⟨rfl, fun _ _ _ => rfl, fun n cur σ K r h => by cases h⟩
      ((laws_szIntS_ok PM.std _ _ k).trans h)
  · cases h

abbrev laws_szCommit_T := (Int) → (Int) → (Int) → (Int) → (Int) → (List (List Int)) → (List Int) → (Int) → ((Int) → PM.R) → PM.R
noncomputable def laws_szCommit_w (c : laws_szCommit_T) (ds : List PM.V) (k : PM.V → PM.R) : PM.R :=
  match ds with
  | [.agg [.int .i64 a_Who, .int .i64 a_Rv, .int .i64 a_Phase, .int .i64 a_At, .int .i64 a_Wv, .arr (.vecs 139 2 a_Puts), .arr (.ints 3 .i64 a_Reads)], .int .i64 left] => c a_Who a_Rv a_Phase a_At a_Wv a_Puts a_Reads left (fun r0 => k (.int .i64 r0))
  | _ => none
noncomputable def laws_szCommit_f (A : PM.Prims) (c_66 : laws_szRowS_T) (c_119 : laws_szIntS_T) (a_Who : Int) (a_Rv : Int) (a_Phase : Int) (a_At : Int) (a_Wv : Int) (a_Puts : List (List Int)) (a_Reads : List Int) (left : Int) (k : (Int) → PM.R) : PM.R :=
  c_66 a_Puts left (fun r1 =>
    bif (A.lt r1 0) then
      k (-1)
    else
      c_119 a_Reads r1 (fun r2 =>
        bif (A.lt r2 0) then
          k (-1)
        else
          k r2))
noncomputable def laws_szCommit (A : PM.Prims) : laws_szCommit_T := laws_szCommit_f A (laws_szRowS A) (laws_szIntS A)
noncomputable def laws_szCommit_L (A : PM.Prims) (c_66 : laws_szRowS_T) (c_119 : laws_szIntS_T) (n : Nat) : PM.Lam := fun cur σ K =>
  match cur, σ, K with
  | _, _, _ => none
noncomputable def laws_szCommit_E (A : PM.Prims) (c_66 : laws_szRowS_T) (c_119 : laws_szIntS_T) : PM.Env := ⟨[(66, ⟨[], laws_szRowS_w c_66, none⟩), (119, ⟨[], laws_szIntS_w c_119, none⟩)], [], [], [(0, [1, 2]), (1, [1, 2]), (2, [1, 2, 10]), (3, [4]), (4, [1]), (5, [1, 16]), (6, [4]), (7, [4])], laws_szCommit_L A c_66 c_119 A.fuel⟩
theorem laws_szCommit_ok (A : PM.Prims) (c_66 : laws_szRowS_T) (c_119 : laws_szIntS_T) (a_Who : Int) (a_Rv : Int) (a_Phase : Int) (a_At : Int) (a_Wv : Int) (a_Puts : List (List Int)) (a_Reads : List Int) (left : Int) (k : PM.V → PM.R) : PM.pfun A cx [] (laws_szCommit_E A c_66 c_119) Go.Proofs.Try.f59 [.agg [.int .i64 a_Who, .int .i64 a_Rv, .int .i64 a_Phase, .int .i64 a_At, .int .i64 a_Wv, .arr (.vecs 139 2 a_Puts), .arr (.ints 3 .i64 a_Reads)], .int .i64 left] k = laws_szCommit_f A c_66 c_119 a_Who a_Rv a_Phase a_At a_Wv a_Puts a_Reads left (fun r0 => k (.int .i64 r0)) := by kernel_rfl

theorem laws_szCommit_fn : PM.FnIs Try.prog 59 Try.f59 := .of Try.func59 (by kernel_rfl) (by kernel_rfl)
theorem laws_szCommit_g : PM.GOk Try.prog cx 59 ⟨[], laws_szCommit_w (laws_szCommit PM.std), none⟩ := by
  refine ⟨laws_szCommit_fn.enter, fun _ ds k r h => ?_, fun hm => absurd rfl hm, fun _ e => (by cases e)⟩
  change laws_szCommit_w (laws_szCommit PM.std) ds k = some r at h
  unfold laws_szCommit_w at h
  split at h
  · exact PM.pfun_ok (E := laws_szCommit_E PM.std (laws_szRowS PM.std) (laws_szIntS PM.std)) (L := fun n => laws_szCommit_L PM.std (laws_szRowS PM.std) (laws_szIntS PM.std) n) (N := PM.std.fuel) cx_ok (.cons laws_szRowS_g (.cons laws_szIntS_g .nil)) mixed .nil laws_szCommit_fn (by kernel_rfl) ⟨rfl, fun _ _ _ => rfl, fun n cur σ K r h => by cases h⟩
      ((laws_szCommit_ok PM.std (laws_szRowS PM.std) (laws_szIntS PM.std) _ _ _ _ _ _ _ _ k).trans h)
  · cases h

abbrev laws_toRow_T := (Int) → (Int) → ((Int) → (Int) → PM.R) → PM.R
noncomputable def laws_toRow_w (c : laws_toRow_T) (ds : List PM.V) (k : PM.V → PM.R) : PM.R :=
  match ds with
  | [.agg [.int .i64 a_Cell, .int .i64 a_Val]] => c a_Cell a_Val (fun r0_Cell r0_Val => k (.agg [.int .i64 r0_Cell, .int .i64 r0_Val]))
  | _ => none
noncomputable def laws_toRow_f (A : PM.Prims) (a_Cell : Int) (a_Val : Int) (k : (Int) → (Int) → PM.R) : PM.R :=
  k a_Cell a_Val
noncomputable def laws_toRow (A : PM.Prims) : laws_toRow_T := laws_toRow_f A
noncomputable def laws_toRow_L (A : PM.Prims) (n : Nat) : PM.Lam := fun cur σ K =>
  match cur, σ, K with
  | _, _, _ => none
noncomputable def laws_toRow_E (A : PM.Prims) : PM.Env := ⟨[], [], [], [(0, [1, 2]), (1, [1, 2, 3]), (2, [1, 2, 3]), (3, [2, 3]), (4, [2])], laws_toRow_L A A.fuel⟩
theorem laws_toRow_ok (A : PM.Prims) (a_Cell : Int) (a_Val : Int) (k : PM.V → PM.R) : PM.pfun A cx [] (laws_toRow_E A) Go.Proofs.Try.f128 [.agg [.int .i64 a_Cell, .int .i64 a_Val]] k = laws_toRow_f A a_Cell a_Val (fun r0_Cell r0_Val => k (.agg [.int .i64 r0_Cell, .int .i64 r0_Val])) := by kernel_rfl

theorem laws_toRow_fn : PM.FnIs Try.prog 128 Try.f128 := .of Try.func128 (by kernel_rfl) (by kernel_rfl)
theorem laws_toRow_g : PM.GOk Try.prog cx 128 ⟨[], laws_toRow_w (laws_toRow PM.std), none⟩ := by
  refine ⟨laws_toRow_fn.enter, fun _ ds k r h => ?_, fun hm => absurd rfl hm, fun _ e => (by cases e)⟩
  change laws_toRow_w (laws_toRow PM.std) ds k = some r at h
  unfold laws_toRow_w at h
  split at h
  · exact PM.pfun_ok (E := laws_toRow_E PM.std) (L := fun n => laws_toRow_L PM.std n) (N := PM.std.fuel) cx_ok .nil mixed .nil laws_toRow_fn (by kernel_rfl) ⟨rfl, fun _ _ _ => rfl, fun n cur σ K r h => by cases h⟩
      ((laws_toRow_ok PM.std _ _ k).trans h)
  · cases h

abbrev laws_toRowS_T := (List (List Int)) → ((List (List Int)) → PM.R) → PM.R
noncomputable def laws_toRowS_w (c : laws_toRowS_T) (ds : List PM.V) (k : PM.V → PM.R) : PM.R :=
  match ds with
  | [.arr (.vecs 139 2 a)] => c a (fun r0 => k (.arr (.vecs 135 2 r0)))
  | _ => none
noncomputable def laws_toRowS_l0 (A : PM.Prims) (c_128 : laws_toRow_T) : Nat → (List (List Int)) → (Int) → (List (List Int)) → ((List (List Int)) → PM.R) → PM.R
  | 0, _, _, _, _ => none
  | n + 1, a1, i2, o03, kx0_0 =>
    bif (A.lt i2 (A.vlen a1)) then
      bif (A.inb i2 (A.vlen a1)) then
        c_128 (A.vget a1 i2 0) (A.vget a1 i2 1) (fun r4 r5 =>
          bif (A.inb i2 (A.vlen o03)) then
            laws_toRowS_l0 A c_128 n a1 (A.add .i64 i2 1) (A.vput o03 i2 [r4, r5]) kx0_0
          else
            none)
      else
        none
    else
      kx0_0 o03
noncomputable def laws_toRowS_f (A : PM.Prims) (c_128 : laws_toRow_T) (a : List (List Int)) (k : (List (List Int)) → PM.R) : PM.R :=
  bif (A.mkOk (A.vlen a)) then
    bif (A.le (A.vlen a) (A.vlen a)) then
      bif (A.mkOk (A.vlen a)) then
        laws_toRowS_l0 A c_128 A.fuel a 0 (A.vzero 2 (A.vlen a)) (fun o067 =>
          k o067)
      else
        none
    else
      none
  else
    none
noncomputable def laws_toRowS (A : PM.Prims) : laws_toRowS_T := laws_toRowS_f A (laws_toRow A)
noncomputable def laws_toRowS_L (A : PM.Prims) (c_128 : laws_toRow_T) (n : Nat) : PM.Lam := fun cur σ K =>
  match cur, σ, K with
  | 0, ⟨[(0, .arr (.vecs 139 2 a1)), (3, .sref 0), (4, .int .i64 i2)], [(0, .arr true (.vecs 135 2 o03))]⟩, K => laws_toRowS_l0 A c_128 n a1 i2 o03 (fun o06 => K (.exit 0) ⟨[(3, .sref 0)], [(0, .arr true (.vecs 135 2 o06))]⟩)
  | _, _, _ => none
noncomputable def laws_toRowS_E (A : PM.Prims) (c_128 : laws_toRow_T) : PM.Env := ⟨[(128, ⟨[], laws_toRow_w c_128, none⟩)], [], [(0, [0, 3, 4], [2, 3])], [(0, [0]), (1, [0, 3]), (2, [0, 3, 4]), (3, [0, 3, 4, 11]), (4, [0, 3, 4]), (5, [0, 3, 4]), (6, [2])], laws_toRowS_L A c_128 A.fuel⟩
theorem laws_toRowS_l0_ok (A : PM.Prims) (c_128 : laws_toRow_T) (n : Nat) (a1 : List (List Int)) (i2 : Int) (o03 : List (List Int)) (K : Go.Exit → PM.S → PM.R) : laws_toRowS_L A c_128 (n + 1) 0 ⟨[(0, .arr (.vecs 139 2 a1)), (3, .sref 0), (4, .int .i64 i2)], [(0, .arr true (.vecs 135 2 o03))]⟩ K = PM.roundF A cx (PM.runD A cx (laws_toRowS_E A c_128).inl (laws_toRowS_E A c_128).Γ 3) (laws_toRowS_E A c_128) (laws_toRowS_L A c_128 n) 0 Go.Proofs.Try.f68 ⟨[(0, .arr (.vecs 139 2 a1)), (3, .sref 0), (4, .int .i64 i2)], [(0, .arr true (.vecs 135 2 o03))]⟩ K := by kernel_rfl
theorem laws_toRowS_ok (A : PM.Prims) (c_128 : laws_toRow_T) (a : List (List Int)) (k : PM.V → PM.R) : PM.pfun A cx [] (laws_toRowS_E A c_128) Go.Proofs.Try.f68 [.arr (.vecs 139 2 a)] k = laws_toRowS_f A c_128 a (fun r0 => k (.arr (.vecs 135 2 r0))) := by kernel_rfl

theorem laws_toRowS_fn : PM.FnIs Try.prog 68 Try.f68 := .of Try.func68 (by kernel_rfl) (by kernel_rfl)
theorem laws_toRowS_g : PM.GOk Try.prog cx 68 ⟨[], laws_toRowS_w (laws_toRowS PM.std), none⟩ := by
  refine ⟨laws_toRowS_fn.enter, fun _ ds k r h => ?_, fun hm => absurd rfl hm, fun _ e => (by cases e)⟩
  change laws_toRowS_w (laws_toRowS PM.std) ds k = some r at h
  unfold laws_toRowS_w at h
  split at h
  · exact PM.pfun_ok (E := laws_toRowS_E PM.std (laws_toRow PM.std)) (L := fun n => laws_toRowS_L PM.std (laws_toRow PM.std) n) (N := PM.std.fuel) cx_ok (.cons laws_toRow_g .nil) mixed .nil laws_toRowS_fn (by kernel_rfl) ⟨rfl, fun cur σ K => by
      dsimp only [laws_toRowS_L]
      split <;> rfl, fun n cur σ K r h => by
      dsimp only [laws_toRowS_L] at h
      split at h
      · exact (laws_toRowS_l0_ok PM.std (laws_toRow PM.std) n _ _ _ K).symm.trans h
      · cases h⟩
      ((laws_toRowS_ok PM.std (laws_toRow PM.std) _ k).trans h)
  · cases h

abbrev laws_toIntS_T := (List Int) → ((List Int) → PM.R) → PM.R
noncomputable def laws_toIntS_w (c : laws_toIntS_T) (ds : List PM.V) (k : PM.V → PM.R) : PM.R :=
  match ds with
  | [.arr (.ints 3 .i64 a)] => c a (fun r0 => k (.arr (.ints 3 .i64 r0)))
  | _ => none
noncomputable def laws_toIntS_l0 (A : PM.Prims) : Nat → (List Int) → (Int) → (List Int) → ((List Int) → PM.R) → PM.R
  | 0, _, _, _, _ => none
  | n + 1, a1, i2, o03, kx0_0 =>
    bif (A.lt i2 (A.ilen a1)) then
      bif (A.inb i2 (A.ilen a1)) then
        bif (A.inb i2 (A.ilen o03)) then
          laws_toIntS_l0 A n a1 (A.add .i64 i2 1) (A.iset o03 i2 (A.iget a1 i2)) kx0_0
        else
          none
      else
        none
    else
      kx0_0 o03
noncomputable def laws_toIntS_f (A : PM.Prims) (a : List Int) (k : (List Int) → PM.R) : PM.R :=
  bif (A.mkOk (A.ilen a)) then
    bif (A.le (A.ilen a) (A.ilen a)) then
      bif (A.mkOk (A.ilen a)) then
        laws_toIntS_l0 A A.fuel a 0 (A.izero (A.ilen a)) (fun o045 =>
          k o045)
      else
        none
    else
      none
  else
    none
noncomputable def laws_toIntS (A : PM.Prims) : laws_toIntS_T := laws_toIntS_f A
noncomputable def laws_toIntS_L (A : PM.Prims) (n : Nat) : PM.Lam := fun cur σ K =>
  match cur, σ, K with
  | 0, ⟨[(0, .arr (.ints 3 .i64 a1)), (3, .sref 0), (4, .int .i64 i2)], [(0, .arr true (.ints 3 .i64 o03))]⟩, K => laws_toIntS_l0 A n a1 i2 o03 (fun o04 => K (.exit 0) ⟨[(3, .sref 0)], [(0, .arr true (.ints 3 .i64 o04))]⟩)
  | _, _, _ => none
noncomputable def laws_toIntS_E (A : PM.Prims) : PM.Env := ⟨[], [], [(0, [0, 3, 4], [2, 3])], [(0, [0]), (1, [0, 3]), (2, [0, 3, 4]), (3, [0, 3, 4, 11]), (4, [0, 3, 4]), (5, [0, 3, 4]), (6, [2])], laws_toIntS_L A A.fuel⟩
theorem laws_toIntS_l0_ok (A : PM.Prims) (n : Nat) (a1 : List Int) (i2 : Int) (o03 : List Int) (K : Go.Exit → PM.S → PM.R) : laws_toIntS_L A (n + 1) 0 ⟨[(0, .arr (.ints 3 .i64 a1)), (3, .sref 0), (4, .int .i64 i2)], [(0, .arr true (.ints 3 .i64 o03))]⟩ K = PM.roundF A cx (PM.runD A cx (laws_toIntS_E A).inl (laws_toIntS_E A).Γ 3) (laws_toIntS_E A) (laws_toIntS_L A n) 0 Go.Proofs.Try.f122 ⟨[(0, .arr (.ints 3 .i64 a1)), (3, .sref 0), (4, .int .i64 i2)], [(0, .arr true (.ints 3 .i64 o03))]⟩ K := by kernel_rfl
theorem laws_toIntS_ok (A : PM.Prims) (a : List Int) (k : PM.V → PM.R) : PM.pfun A cx [] (laws_toIntS_E A) Go.Proofs.Try.f122 [.arr (.ints 3 .i64 a)] k = laws_toIntS_f A a (fun r0 => k (.arr (.ints 3 .i64 r0))) := by kernel_rfl

theorem laws_toIntS_fn : PM.FnIs Try.prog 122 Try.f122 := .of Try.func122 (by kernel_rfl) (by kernel_rfl)
theorem laws_toIntS_g : PM.GOk Try.prog cx 122 ⟨[], laws_toIntS_w (laws_toIntS PM.std), none⟩ := by
  refine ⟨laws_toIntS_fn.enter, fun _ ds k r h => ?_, fun hm => absurd rfl hm, fun _ e => (by cases e)⟩
  change laws_toIntS_w (laws_toIntS PM.std) ds k = some r at h
  unfold laws_toIntS_w at h
  split at h
  · exact PM.pfun_ok (E := laws_toIntS_E PM.std) (L := fun n => laws_toIntS_L PM.std n) (N := PM.std.fuel) cx_ok .nil mixed .nil laws_toIntS_fn (by kernel_rfl) ⟨rfl, fun cur σ K => by
      dsimp only [laws_toIntS_L]
      split <;> rfl, fun n cur σ K r h => by
      dsimp only [laws_toIntS_L] at h
      split at h
      · exact (laws_toIntS_l0_ok PM.std n _ _ _ K).symm.trans h
      · cases h⟩
      ((laws_toIntS_ok PM.std _ k).trans h)
  · cases h

abbrev laws_toCommit_T := (Int) → (Int) → (Int) → (Int) → (Int) → (List (List Int)) → (List Int) → ((Int) → (Int) → (Int) → (Int) → (Int) → (List (List Int)) → (List Int) → PM.R) → PM.R
noncomputable def laws_toCommit_w (c : laws_toCommit_T) (ds : List PM.V) (k : PM.V → PM.R) : PM.R :=
  match ds with
  | [.agg [.int .i64 a_Who, .int .i64 a_Rv, .int .i64 a_Phase, .int .i64 a_At, .int .i64 a_Wv, .arr (.vecs 139 2 a_Puts), .arr (.ints 3 .i64 a_Reads)]] => c a_Who a_Rv a_Phase a_At a_Wv a_Puts a_Reads (fun r0_Who r0_Rv r0_Phase r0_At r0_Wv r0_Puts r0_Reads => k (.agg [.int .i64 r0_Who, .int .i64 r0_Rv, .int .i64 r0_Phase, .int .i64 r0_At, .int .i64 r0_Wv, .arr (.vecs 135 2 r0_Puts), .arr (.ints 3 .i64 r0_Reads)]))
  | _ => none
noncomputable def laws_toCommit_f (A : PM.Prims) (c_68 : laws_toRowS_T) (c_122 : laws_toIntS_T) (a_Who : Int) (a_Rv : Int) (a_Phase : Int) (a_At : Int) (a_Wv : Int) (a_Puts : List (List Int)) (a_Reads : List Int) (k : (Int) → (Int) → (Int) → (Int) → (Int) → (List (List Int)) → (List Int) → PM.R) : PM.R :=
  c_68 a_Puts (fun r1 =>
    c_122 a_Reads (fun r2 =>
      k a_Who a_Rv a_Phase a_At a_Wv r1 r2))
noncomputable def laws_toCommit (A : PM.Prims) : laws_toCommit_T := laws_toCommit_f A (laws_toRowS A) (laws_toIntS A)
noncomputable def laws_toCommit_L (A : PM.Prims) (c_68 : laws_toRowS_T) (c_122 : laws_toIntS_T) (n : Nat) : PM.Lam := fun cur σ K =>
  match cur, σ, K with
  | _, _, _ => none
noncomputable def laws_toCommit_E (A : PM.Prims) (c_68 : laws_toRowS_T) (c_122 : laws_toIntS_T) : PM.Env := ⟨[(68, ⟨[], laws_toRowS_w c_68, none⟩), (122, ⟨[], laws_toIntS_w c_122, none⟩)], [], [], [(0, [1, 2]), (1, [1, 2, 3]), (2, [1, 2, 3]), (3, [1, 2, 3]), (4, [1, 2, 3]), (5, [1, 2, 3]), (6, [1, 2, 3]), (7, [1, 2, 3]), (8, [2, 3]), (9, [2])], laws_toCommit_L A c_68 c_122 A.fuel⟩
theorem laws_toCommit_ok (A : PM.Prims) (c_68 : laws_toRowS_T) (c_122 : laws_toIntS_T) (a_Who : Int) (a_Rv : Int) (a_Phase : Int) (a_At : Int) (a_Wv : Int) (a_Puts : List (List Int)) (a_Reads : List Int) (k : PM.V → PM.R) : PM.pfun A cx [] (laws_toCommit_E A c_68 c_122) Go.Proofs.Try.f61 [.agg [.int .i64 a_Who, .int .i64 a_Rv, .int .i64 a_Phase, .int .i64 a_At, .int .i64 a_Wv, .arr (.vecs 139 2 a_Puts), .arr (.ints 3 .i64 a_Reads)]] k = laws_toCommit_f A c_68 c_122 a_Who a_Rv a_Phase a_At a_Wv a_Puts a_Reads (fun r0_Who r0_Rv r0_Phase r0_At r0_Wv r0_Puts r0_Reads => k (.agg [.int .i64 r0_Who, .int .i64 r0_Rv, .int .i64 r0_Phase, .int .i64 r0_At, .int .i64 r0_Wv, .arr (.vecs 135 2 r0_Puts), .arr (.ints 3 .i64 r0_Reads)])) := by kernel_rfl

theorem laws_toCommit_fn : PM.FnIs Try.prog 61 Try.f61 := .of Try.func61 (by kernel_rfl) (by kernel_rfl)
theorem laws_toCommit_g : PM.GOk Try.prog cx 61 ⟨[], laws_toCommit_w (laws_toCommit PM.std), none⟩ := by
  refine ⟨laws_toCommit_fn.enter, fun _ ds k r h => ?_, fun hm => absurd rfl hm, fun _ e => (by cases e)⟩
  change laws_toCommit_w (laws_toCommit PM.std) ds k = some r at h
  unfold laws_toCommit_w at h
  split at h
  · exact PM.pfun_ok (E := laws_toCommit_E PM.std (laws_toRowS PM.std) (laws_toIntS PM.std)) (L := fun n => laws_toCommit_L PM.std (laws_toRowS PM.std) (laws_toIntS PM.std) n) (N := PM.std.fuel) cx_ok (.cons laws_toRowS_g (.cons laws_toIntS_g .nil)) mixed .nil laws_toCommit_fn (by kernel_rfl) ⟨rfl, fun _ _ _ => rfl, fun n cur σ K r h => by cases h⟩
      ((laws_toCommit_ok PM.std (laws_toRowS PM.std) (laws_toIntS PM.std) _ _ _ _ _ _ _ k).trans h)
  · cases h

abbrev spec_RowsOk_T := (List (List Int)) → ((Bool) → PM.R) → PM.R
noncomputable def spec_RowsOk_w (c : spec_RowsOk_T) (ds : List PM.V) (k : PM.V → PM.R) : PM.R :=
  match ds with
  | [.arr (.vecs 135 2 l)] => c l (fun r0 => k (.bool r0))
  | _ => none
noncomputable def spec_RowsOk_l0 (A : PM.Prims) (c_95 : spec_l3Val_T) (c_93 : spec_l3Cell_T) : Nat → (List (List Int)) → (Int) → ((Bool) → PM.R) → (Unit → PM.R) → PM.R
  | 0, _, _, _, _ => none
  | n + 1, l1, i2, kret_0, kx0_0 =>
    bif (A.lt i2 (A.vlen l1)) then
      bif (A.inb i2 (A.vlen l1)) then
        c_93 (A.vget l1 i2 0) (fun r3 =>
          bif (A.not r3) then
            kret_0 false
          else
            bif (A.inb i2 (A.vlen l1)) then
              c_95 (A.vget l1 i2 1) (fun r5 =>
                bif (A.not r5) then
                  kret_0 false
                else
                  spec_RowsOk_l0 A c_95 c_93 n l1 (A.add .i64 i2 1) kret_0 kx0_0)
            else
              none)
      else
        none
    else
      kx0_0 ()
noncomputable def spec_RowsOk_f (A : PM.Prims) (c_95 : spec_l3Val_T) (c_93 : spec_l3Cell_T) (l : List (List Int)) (k : (Bool) → PM.R) : PM.R :=
  bif (A.lt 300 (A.vlen l)) then
    k false
  else
    spec_RowsOk_l0 A c_95 c_93 A.fuel l 0 (fun t246 =>
      k t246) (fun _ =>
      k true)
noncomputable def spec_RowsOk (A : PM.Prims) : spec_RowsOk_T := spec_RowsOk_f A (spec_l3Val A) (spec_l3Cell A)
noncomputable def spec_RowsOk_L (A : PM.Prims) (c_95 : spec_l3Val_T) (c_93 : spec_l3Cell_T) (n : Nat) : PM.Lam := fun cur σ K =>
  match cur, σ, K with
  | 0, ⟨[(0, .arr (.vecs 135 2 l1)), (3, .int .i64 i2)], []⟩, K => spec_RowsOk_l0 A c_95 c_93 n l1 i2 (fun t24 => K .ret ⟨[(2, .bool t24)], []⟩) (fun _ => K (.exit 0) ⟨[], []⟩)
  | _, _, _ => none
noncomputable def spec_RowsOk_E (A : PM.Prims) (c_95 : spec_l3Val_T) (c_93 : spec_l3Cell_T) : PM.Env := ⟨[(95, ⟨[], spec_l3Val_w c_95, none⟩), (93, ⟨[], spec_l3Cell_w c_93, none⟩)], [], [(0, [0, 3], [2])], [(0, [0]), (1, [0, 6]), (2, [2]), (3, [0, 3]), (4, [0, 3, 10]), (5, [0, 3]), (6, [0, 3, 28]), (7, [2]), (8, [2])], spec_RowsOk_L A c_95 c_93 A.fuel⟩
theorem spec_RowsOk_l0_ok (A : PM.Prims) (c_95 : spec_l3Val_T) (c_93 : spec_l3Cell_T) (n : Nat) (l1 : List (List Int)) (i2 : Int) (K : Go.Exit → PM.S → PM.R) : spec_RowsOk_L A c_95 c_93 (n + 1) 0 ⟨[(0, .arr (.vecs 135 2 l1)), (3, .int .i64 i2)], []⟩ K = PM.roundF A cx (PM.runD A cx (spec_RowsOk_E A c_95 c_93).inl (spec_RowsOk_E A c_95 c_93).Γ 3) (spec_RowsOk_E A c_95 c_93) (spec_RowsOk_L A c_95 c_93 n) 0 Go.Proofs.Try.f82 ⟨[(0, .arr (.vecs 135 2 l1)), (3, .int .i64 i2)], []⟩ K := by kernel_rfl
theorem spec_RowsOk_ok (A : PM.Prims) (c_95 : spec_l3Val_T) (c_93 : spec_l3Cell_T) (l : List (List Int)) (k : PM.V → PM.R) : PM.pfun A cx [] (spec_RowsOk_E A c_95 c_93) Go.Proofs.Try.f82 [.arr (.vecs 135 2 l)] k = spec_RowsOk_f A c_95 c_93 l (fun r0 => k (.bool r0)) := by kernel_rfl

theorem spec_RowsOk_fn : PM.FnIs Try.prog 82 Try.f82 := .of Try.func82 (by kernel_rfl) (by kernel_rfl)
theorem spec_RowsOk_g : PM.GOk Try.prog cx 82 ⟨[], spec_RowsOk_w (spec_RowsOk PM.std), none⟩ := by
  refine ⟨spec_RowsOk_fn.enter, fun _ ds k r h => ?_, fun hm => absurd rfl hm, fun _ e => (by cases e)⟩
  change spec_RowsOk_w (spec_RowsOk PM.std) ds k = some r at h
  unfold spec_RowsOk_w at h
  split at h
  · exact PM.pfun_ok (E := spec_RowsOk_E PM.std (spec_l3Val PM.std) (spec_l3Cell PM.std)) (L := fun n => spec_RowsOk_L PM.std (spec_l3Val PM.std) (spec_l3Cell PM.std) n) (N := PM.std.fuel) cx_ok (.cons spec_l3Val_g (.cons spec_l3Cell_g .nil)) mixed .nil spec_RowsOk_fn (by kernel_rfl) ⟨rfl, fun cur σ K => by
      dsimp only [spec_RowsOk_L]
      split <;> rfl, fun n cur σ K r h => by
      dsimp only [spec_RowsOk_L] at h
      split at h
      · exact (spec_RowsOk_l0_ok PM.std (spec_l3Val PM.std) (spec_l3Cell PM.std) n _ _ K).symm.trans h
      · cases h⟩
      ((spec_RowsOk_ok PM.std (spec_l3Val PM.std) (spec_l3Cell PM.std) _ k).trans h)
  · cases h

abbrev spec_l10Rising_T := (List Int) → ((Bool) → PM.R) → PM.R
noncomputable def spec_l10Rising_w (c : spec_l10Rising_T) (ds : List PM.V) (k : PM.V → PM.R) : PM.R :=
  match ds with
  | [.arr (.ints 3 .i64 l)] => c l (fun r0 => k (.bool r0))
  | _ => none
noncomputable def spec_l10Rising_l0 (A : PM.Prims) (c_93 : spec_l3Cell_T) : Nat → (List Int) → (Int) → ((Bool) → PM.R) → (Unit → PM.R) → PM.R
  | 0, _, _, _, _ => none
  | n + 1, l1, i2, kret_0, kx0_0 =>
    bif (A.lt i2 (A.ilen l1)) then
      bif (A.inb i2 (A.ilen l1)) then
        c_93 (A.iget l1 i2) (fun r3 =>
          bif (A.not r3) then
            kret_0 false
          else
            bif (A.lt 0 i2) then
              bif (A.inb i2 (A.ilen l1)) then
                bif (A.inb (A.sub .i64 i2 1) (A.ilen l1)) then
                  bif (A.le (A.iget l1 i2) (A.iget l1 (A.sub .i64 i2 1))) then
                    kret_0 false
                  else
                    spec_l10Rising_l0 A c_93 n l1 (A.add .i64 i2 1) kret_0 kx0_0
                else
                  none
              else
                none
            else
              spec_l10Rising_l0 A c_93 n l1 (A.add .i64 i2 1) kret_0 kx0_0)
      else
        none
    else
      kx0_0 ()
noncomputable def spec_l10Rising_f (A : PM.Prims) (c_93 : spec_l3Cell_T) (l : List Int) (k : (Bool) → PM.R) : PM.R :=
  spec_l10Rising_l0 A c_93 A.fuel l 0 (fun t245 =>
    k t245) (fun _ =>
    k true)
noncomputable def spec_l10Rising (A : PM.Prims) : spec_l10Rising_T := spec_l10Rising_f A (spec_l3Cell A)
noncomputable def spec_l10Rising_L (A : PM.Prims) (c_93 : spec_l3Cell_T) (n : Nat) : PM.Lam := fun cur σ K =>
  match cur, σ, K with
  | 0, ⟨[(0, .arr (.ints 3 .i64 l1)), (3, .int .i64 i2)], []⟩, K => spec_l10Rising_l0 A c_93 n l1 i2 (fun t24 => K .ret ⟨[(2, .bool t24)], []⟩) (fun _ => K (.exit 0) ⟨[], []⟩)
  | _, _, _ => none
noncomputable def spec_l10Rising_E (A : PM.Prims) (c_93 : spec_l3Cell_T) : PM.Env := ⟨[(93, ⟨[], spec_l3Cell_w c_93, none⟩)], [], [(0, [0, 3], [2])], [(0, [0]), (1, [0, 3]), (2, [0, 3, 7]), (3, [0, 3]), (4, [0, 3, 31]), (5, [2]), (6, [2])], spec_l10Rising_L A c_93 A.fuel⟩
theorem spec_l10Rising_l0_ok (A : PM.Prims) (c_93 : spec_l3Cell_T) (n : Nat) (l1 : List Int) (i2 : Int) (K : Go.Exit → PM.S → PM.R) : spec_l10Rising_L A c_93 (n + 1) 0 ⟨[(0, .arr (.ints 3 .i64 l1)), (3, .int .i64 i2)], []⟩ K = PM.roundF A cx (PM.runD A cx (spec_l10Rising_E A c_93).inl (spec_l10Rising_E A c_93).Γ 3) (spec_l10Rising_E A c_93) (spec_l10Rising_L A c_93 n) 0 Go.Proofs.Try.f120 ⟨[(0, .arr (.ints 3 .i64 l1)), (3, .int .i64 i2)], []⟩ K := by kernel_rfl
theorem spec_l10Rising_ok (A : PM.Prims) (c_93 : spec_l3Cell_T) (l : List Int) (k : PM.V → PM.R) : PM.pfun A cx [] (spec_l10Rising_E A c_93) Go.Proofs.Try.f120 [.arr (.ints 3 .i64 l)] k = spec_l10Rising_f A c_93 l (fun r0 => k (.bool r0)) := by kernel_rfl

theorem spec_l10Rising_fn : PM.FnIs Try.prog 120 Try.f120 := .of Try.func120 (by kernel_rfl) (by kernel_rfl)
theorem spec_l10Rising_g : PM.GOk Try.prog cx 120 ⟨[], spec_l10Rising_w (spec_l10Rising PM.std), none⟩ := by
  refine ⟨spec_l10Rising_fn.enter, fun _ ds k r h => ?_, fun hm => absurd rfl hm, fun _ e => (by cases e)⟩
  change spec_l10Rising_w (spec_l10Rising PM.std) ds k = some r at h
  unfold spec_l10Rising_w at h
  split at h
  · exact PM.pfun_ok (E := spec_l10Rising_E PM.std (spec_l3Cell PM.std)) (L := fun n => spec_l10Rising_L PM.std (spec_l3Cell PM.std) n) (N := PM.std.fuel) cx_ok (.cons spec_l3Cell_g .nil) mixed .nil spec_l10Rising_fn (by kernel_rfl) ⟨rfl, fun cur σ K => by
      dsimp only [spec_l10Rising_L]
      split <;> rfl, fun n cur σ K r h => by
      dsimp only [spec_l10Rising_L] at h
      split at h
      · exact (spec_l10Rising_l0_ok PM.std (spec_l3Cell PM.std) n _ _ K).symm.trans h
      · cases h⟩
      ((spec_l10Rising_ok PM.std (spec_l3Cell PM.std) _ k).trans h)
  · cases h

abbrev spec_l10Len_T := (Int) → (Int) → (Int) → (Int) → (Int) → (List (List Int)) → (List Int) → ((Int) → PM.R) → PM.R
noncomputable def spec_l10Len_w (c : spec_l10Len_T) (ds : List PM.V) (k : PM.V → PM.R) : PM.R :=
  match ds with
  | [.agg [.int .i64 c_Who, .int .i64 c_Rv, .int .i64 c_Phase, .int .i64 c_At, .int .i64 c_Wv, .arr (.vecs 135 2 c_Puts), .arr (.ints 3 .i64 c_Reads)]] => c c_Who c_Rv c_Phase c_At c_Wv c_Puts c_Reads (fun r0 => k (.int .i64 r0))
  | _ => none
noncomputable def spec_l10Len_f (A : PM.Prims) (c_Who : Int) (c_Rv : Int) (c_Phase : Int) (c_At : Int) (c_Wv : Int) (c_Puts : List (List Int)) (c_Reads : List Int) (k : (Int) → PM.R) : PM.R :=
  bif (A.eq c_Phase 1) then
    k (A.vlen c_Puts)
  else
    bif (A.eq c_Phase 4) then
      k (A.vlen c_Puts)
    else
      bif (A.eq c_Phase 5) then
        k (A.vlen c_Puts)
      else
        bif (A.eq c_Phase 7) then
          k (A.vlen c_Puts)
        else
          bif (A.eq c_Phase 3) then
            k (A.ilen c_Reads)
          else
            k 1
noncomputable def spec_l10Len (A : PM.Prims) : spec_l10Len_T := spec_l10Len_f A
noncomputable def spec_l10Len_L (A : PM.Prims) (n : Nat) : PM.Lam := fun cur σ K =>
  match cur, σ, K with
  | _, _, _ => none
noncomputable def spec_l10Len_E (A : PM.Prims) : PM.Env := ⟨[], [], [], [(0, [1]), (1, [1, 4]), (2, [1, 4, 5]), (3, [1, 4, 5]), (4, [1, 4, 5]), (5, [1, 4, 5]), (6, [2]), (7, [1, 13]), (8, [2]), (9, [2])], spec_l10Len_L A A.fuel⟩
theorem spec_l10Len_ok (A : PM.Prims) (c_Who : Int) (c_Rv : Int) (c_Phase : Int) (c_At : Int) (c_Wv : Int) (c_Puts : List (List Int)) (c_Reads : List Int) (k : PM.V → PM.R) : PM.pfun A cx [] (spec_l10Len_E A) Go.Proofs.Try.f121 [.agg [.int .i64 c_Who, .int .i64 c_Rv, .int .i64 c_Phase, .int .i64 c_At, .int .i64 c_Wv, .arr (.vecs 135 2 c_Puts), .arr (.ints 3 .i64 c_Reads)]] k = spec_l10Len_f A c_Who c_Rv c_Phase c_At c_Wv c_Puts c_Reads (fun r0 => k (.int .i64 r0)) := by kernel_rfl

theorem spec_l10Len_fn : PM.FnIs Try.prog 121 Try.f121 := .of Try.func121 (by kernel_rfl) (by kernel_rfl)
theorem spec_l10Len_g : PM.GOk Try.prog cx 121 ⟨[], spec_l10Len_w (spec_l10Len PM.std), none⟩ := by
  refine ⟨spec_l10Len_fn.enter, fun _ ds k r h => ?_, fun hm => absurd rfl hm, fun _ e => (by cases e)⟩
  change spec_l10Len_w (spec_l10Len PM.std) ds k = some r at h
  unfold spec_l10Len_w at h
  split at h
  · exact PM.pfun_ok (E := spec_l10Len_E PM.std) (L := fun n => spec_l10Len_L PM.std n) (N := PM.std.fuel) cx_ok .nil mixed .nil spec_l10Len_fn (by kernel_rfl) ⟨rfl, fun _ _ _ => rfl, fun n cur σ K r h => by cases h⟩
      ((spec_l10Len_ok PM.std _ _ _ _ _ _ _ k).trans h)
  · cases h

abbrev spec_CommitOk_T := (Int) → (Int) → (Int) → (Int) → (Int) → (List (List Int)) → (List Int) → ((Bool) → PM.R) → PM.R
noncomputable def spec_CommitOk_w (c : spec_CommitOk_T) (ds : List PM.V) (k : PM.V → PM.R) : PM.R :=
  match ds with
  | [.agg [.int .i64 ___Who, .int .i64 ___Rv, .int .i64 ___Phase, .int .i64 ___At, .int .i64 ___Wv, .arr (.vecs 135 2 ___Puts), .arr (.ints 3 .i64 ___Reads)]] => c ___Who ___Rv ___Phase ___At ___Wv ___Puts ___Reads (fun r0 => k (.bool r0))
  | _ => none
noncomputable def spec_CommitOk_l0 (A : PM.Prims) (c_94 : spec_l1In_T) (c_82 : spec_RowsOk_T) (c_120 : spec_l10Rising_T) (c_121 : spec_l10Len_T) : Nat → (Int) → (Int) → (Int) → (Int) → (Int) → (Int) → (List (List Int)) → (List Int) → ((Bool) → PM.R) → ((Int) → (Int) → (Int) → (Int) → (Int) → (List (List Int)) → (List Int) → PM.R) → PM.R
  | 0, _, _, _, _, _, _, _, _, _, _ => none
  | n + 1, i7, o08, o09, o010, o011, o012, o013, o014, kret_0, kx0_0 =>
    bif (A.lt i7 (A.vlen o013)) then
      bif (A.inb i7 (A.vlen o013)) then
        bif (A.inb (A.sub .i64 i7 1) (A.vlen o013)) then
          bif (A.le (A.vget o013 i7 0) (A.vget o013 (A.sub .i64 i7 1) 0)) then
            kret_0 false
          else
            spec_CommitOk_l0 A c_94 c_82 c_120 c_121 n (A.add .i64 i7 1) o08 o09 o010 o011 o012 o013 o014 kret_0 kx0_0
        else
          none
      else
        none
    else
      kx0_0 o08 o09 o010 o011 o012 o013 o014
noncomputable def spec_CommitOk_f (A : PM.Prims) (c_94 : spec_l1In_T) (c_82 : spec_RowsOk_T) (c_120 : spec_l10Rising_T) (c_121 : spec_l10Len_T) (___Who : Int) (___Rv : Int) (___Phase : Int) (___At : Int) (___Wv : Int) (___Puts : List (List Int)) (___Reads : List Int) (k : (Bool) → PM.R) : PM.R :=
  c_94 ___Who 1 99 (fun r1 =>
    bif (A.not r1) then
      k false
    else
      c_94 ___Rv 0 1000000 (fun r2 =>
        bif (A.not r2) then
          k false
        else
          c_94 ___Wv 0 1000000 (fun r3 =>
            bif (A.not r3) then
              k false
            else
              c_94 ___Phase 1 8 (fun r4 =>
                bif (A.not r4) then
                  k false
                else
                  c_82 ___Puts (fun r5 =>
                    bif (A.not r5) then
                      k false
                    else
                      c_120 ___Reads (fun r6 =>
                        bif (A.not r6) then
                          k false
                        else
                          spec_CommitOk_l0 A c_94 c_82 c_120 c_121 A.fuel 1 ___Who ___Rv ___Phase ___At ___Wv ___Puts ___Reads (fun t21523 =>
                            k t21523) (fun o01624 o01725 o01826 o01927 o02028 o02129 o02230 =>
                            c_121 o01624 o01725 o01826 o01927 o02028 o02129 o02230 (fun r31 =>
                              c_94 o01927 0 (A.sub .i64 r31 1) (fun r32 =>
                                k r32)))))))))
noncomputable def spec_CommitOk (A : PM.Prims) : spec_CommitOk_T := spec_CommitOk_f A (spec_l1In A) (spec_RowsOk A) (spec_l10Rising A) (spec_l10Len A)
noncomputable def spec_CommitOk_L (A : PM.Prims) (c_94 : spec_l1In_T) (c_82 : spec_RowsOk_T) (c_120 : spec_l10Rising_T) (c_121 : spec_l10Len_T) (n : Nat) : PM.Lam := fun cur σ K =>
  match cur, σ, K with
  | 0, ⟨[(1, .pbox 0 0), (3, .int .i64 i7)], [(0, .box [.int .i64 o08, .int .i64 o09, .int .i64 o010, .int .i64 o011, .int .i64 o012, .arr (.vecs 135 2 o013), .arr (.ints 3 .i64 o014)])]⟩, K => spec_CommitOk_l0 A c_94 c_82 c_120 c_121 n i7 o08 o09 o010 o011 o012 o013 o014 (fun t215 => K .ret ⟨[(2, .bool t215)], []⟩) (fun o016 o017 o018 o019 o020 o021 o022 => K (.exit 0) ⟨[(1, .pbox 0 0)], [(0, .box [.int .i64 o016, .int .i64 o017, .int .i64 o018, .int .i64 o019, .int .i64 o020, .arr (.vecs 135 2 o021), .arr (.ints 3 .i64 o022)])]⟩)
  | _, _, _ => none
noncomputable def spec_CommitOk_E (A : PM.Prims) (c_94 : spec_l1In_T) (c_82 : spec_RowsOk_T) (c_120 : spec_l10Rising_T) (c_121 : spec_l10Len_T) : PM.Env := ⟨[(94, ⟨[], spec_l1In_w c_94, none⟩), (82, ⟨[], spec_RowsOk_w c_82, none⟩), (120, ⟨[], spec_l10Rising_w c_120, none⟩), (121, ⟨[], spec_l10Len_w c_121, none⟩)], [], [(0, [1, 3], [1, 2])], [(0, [1]), (1, [1, 37]), (2, [2]), (3, [1, 3]), (4, [1, 3, 42]), (5, [1, 3]), (6, [1, 3, 58]), (7, [2]), (8, [2])], spec_CommitOk_L A c_94 c_82 c_120 c_121 A.fuel⟩
theorem spec_CommitOk_l0_ok (A : PM.Prims) (c_94 : spec_l1In_T) (c_82 : spec_RowsOk_T) (c_120 : spec_l10Rising_T) (c_121 : spec_l10Len_T) (n : Nat) (i7 : Int) (o08 : Int) (o09 : Int) (o010 : Int) (o011 : Int) (o012 : Int) (o013 : List (List Int)) (o014 : List Int) (K : Go.Exit → PM.S → PM.R) : spec_CommitOk_L A c_94 c_82 c_120 c_121 (n + 1) 0 ⟨[(1, .pbox 0 0), (3, .int .i64 i7)], [(0, .box [.int .i64 o08, .int .i64 o09, .int .i64 o010, .int .i64 o011, .int .i64 o012, .arr (.vecs 135 2 o013), .arr (.ints 3 .i64 o014)])]⟩ K = PM.roundF A cx (PM.runD A cx (spec_CommitOk_E A c_94 c_82 c_120 c_121).inl (spec_CommitOk_E A c_94 c_82 c_120 c_121).Γ 3) (spec_CommitOk_E A c_94 c_82 c_120 c_121) (spec_CommitOk_L A c_94 c_82 c_120 c_121 n) 0 Go.Proofs.Try.f60 ⟨[(1, .pbox 0 0), (3, .int .i64 i7)], [(0, .box [.int .i64 o08, .int .i64 o09, .int .i64 o010, .int .i64 o011, .int .i64 o012, .arr (.vecs 135 2 o013), .arr (.ints 3 .i64 o014)])]⟩ K := by kernel_rfl
theorem spec_CommitOk_ok (A : PM.Prims) (c_94 : spec_l1In_T) (c_82 : spec_RowsOk_T) (c_120 : spec_l10Rising_T) (c_121 : spec_l10Len_T) (___Who : Int) (___Rv : Int) (___Phase : Int) (___At : Int) (___Wv : Int) (___Puts : List (List Int)) (___Reads : List Int) (k : PM.V → PM.R) : PM.pfun A cx [] (spec_CommitOk_E A c_94 c_82 c_120 c_121) Go.Proofs.Try.f60 [.agg [.int .i64 ___Who, .int .i64 ___Rv, .int .i64 ___Phase, .int .i64 ___At, .int .i64 ___Wv, .arr (.vecs 135 2 ___Puts), .arr (.ints 3 .i64 ___Reads)]] k = spec_CommitOk_f A c_94 c_82 c_120 c_121 ___Who ___Rv ___Phase ___At ___Wv ___Puts ___Reads (fun r0 => k (.bool r0)) := by kernel_rfl

theorem spec_CommitOk_fn : PM.FnIs Try.prog 60 Try.f60 := .of Try.func60 (by kernel_rfl) (by kernel_rfl)
theorem spec_CommitOk_g : PM.GOk Try.prog cx 60 ⟨[], spec_CommitOk_w (spec_CommitOk PM.std), none⟩ := by
  refine ⟨spec_CommitOk_fn.enter, fun _ ds k r h => ?_, fun hm => absurd rfl hm, fun _ e => (by cases e)⟩
  change spec_CommitOk_w (spec_CommitOk PM.std) ds k = some r at h
  unfold spec_CommitOk_w at h
  split at h
  · exact PM.pfun_ok (E := spec_CommitOk_E PM.std (spec_l1In PM.std) (spec_RowsOk PM.std) (spec_l10Rising PM.std) (spec_l10Len PM.std)) (L := fun n => spec_CommitOk_L PM.std (spec_l1In PM.std) (spec_RowsOk PM.std) (spec_l10Rising PM.std) (spec_l10Len PM.std) n) (N := PM.std.fuel) cx_ok (.cons spec_l1In_g (.cons spec_RowsOk_g (.cons spec_l10Rising_g (.cons spec_l10Len_g .nil)))) mixed .nil spec_CommitOk_fn (by kernel_rfl) ⟨rfl, fun cur σ K => by
      dsimp only [spec_CommitOk_L]
      split <;> rfl, fun n cur σ K r h => by
      dsimp only [spec_CommitOk_L] at h
      split at h
      · exact (spec_CommitOk_l0_ok PM.std (spec_l1In PM.std) (spec_RowsOk PM.std) (spec_l10Rising PM.std) (spec_l10Len PM.std) n _ _ _ _ _ _ _ _ K).symm.trans h
      · cases h⟩
      ((spec_CommitOk_ok PM.std (spec_l1In PM.std) (spec_RowsOk PM.std) (spec_l10Rising PM.std) (spec_l10Len PM.std) _ _ _ _ _ _ _ k).trans h)
  · cases h

abbrev impl_isOwner_T := (Int) → ((Bool) → PM.R) → PM.R
noncomputable def impl_isOwner_w (c : impl_isOwner_T) (ds : List PM.V) (k : PM.V → PM.R) : PM.R :=
  match ds with
  | [.int .i64 who] => c who (fun r0 => k (.bool r0))
  | _ => none
noncomputable def impl_isOwner_f (A : PM.Prims) (c_97 : impl_within_T) (who : Int) (k : (Bool) → PM.R) : PM.R :=
  c_97 who 1 99 (fun r1 =>
    k r1)
noncomputable def impl_isOwner (A : PM.Prims) : impl_isOwner_T := impl_isOwner_f A (impl_within A)
noncomputable def impl_isOwner_L (A : PM.Prims) (c_97 : impl_within_T) (n : Nat) : PM.Lam := fun cur σ K =>
  match cur, σ, K with
  | _, _, _ => none
noncomputable def impl_isOwner_E (A : PM.Prims) (c_97 : impl_within_T) : PM.Env := ⟨[(97, ⟨[], impl_within_w c_97, none⟩)], [], [], [(0, [0]), (1, [2])], impl_isOwner_L A c_97 A.fuel⟩
theorem impl_isOwner_ok (A : PM.Prims) (c_97 : impl_within_T) (who : Int) (k : PM.V → PM.R) : PM.pfun A cx [] (impl_isOwner_E A c_97) Go.Proofs.Try.f123 [.int .i64 who] k = impl_isOwner_f A c_97 who (fun r0 => k (.bool r0)) := by kernel_rfl

theorem impl_isOwner_fn : PM.FnIs Try.prog 123 Try.f123 := .of Try.func123 (by kernel_rfl) (by kernel_rfl)
theorem impl_isOwner_g : PM.GOk Try.prog cx 123 ⟨[], impl_isOwner_w (impl_isOwner PM.std), none⟩ := by
  refine ⟨impl_isOwner_fn.enter, fun _ ds k r h => ?_, fun hm => absurd rfl hm, fun _ e => (by cases e)⟩
  change impl_isOwner_w (impl_isOwner PM.std) ds k = some r at h
  unfold impl_isOwner_w at h
  split at h
  · exact PM.pfun_ok (E := impl_isOwner_E PM.std (impl_within PM.std)) (L := fun n => impl_isOwner_L PM.std (impl_within PM.std) n) (N := PM.std.fuel) cx_ok (.cons impl_within_g .nil) mixed .nil impl_isOwner_fn (by kernel_rfl) ⟨rfl, fun _ _ _ => rfl, fun n cur σ K r h => by cases h⟩
      ((impl_isOwner_ok PM.std (impl_within PM.std) _ k).trans h)
  · cases h

abbrev impl_RowsOk_T := (List (List Int)) → ((Bool) → PM.R) → PM.R
noncomputable def impl_RowsOk_w (c : impl_RowsOk_T) (ds : List PM.V) (k : PM.V → PM.R) : PM.R :=
  match ds with
  | [.arr (.vecs 135 2 l)] => c l (fun r0 => k (.bool r0))
  | _ => none
noncomputable def impl_RowsOk_l0 (A : PM.Prims) (c_98 : impl_isValue_T) (c_96 : impl_isCell_T) : Nat → (List (List Int)) → (List (List Int)) → (Int) → (Int) → ((Bool) → PM.R) → ((List (List Int)) → PM.R) → PM.R
  | 0, _, _, _, _, _, _ => none
  | n + 1, l1, t52, t63, t74, kret_0, kx0_0 =>
    bif (A.lt t74 t63) then
      bif (A.inb t74 (A.vlen t52)) then
        c_96 (A.vget t52 t74 0) (fun r5 =>
          bif (A.not r5) then
            kret_0 false
          else
            c_98 (A.vget t52 t74 1) (fun r7 =>
              bif (A.not r7) then
                kret_0 false
              else
                impl_RowsOk_l0 A c_98 c_96 n l1 t52 t63 (A.add .i64 t74 1) kret_0 kx0_0))
      else
        none
    else
      kx0_0 l1
noncomputable def impl_RowsOk_f (A : PM.Prims) (c_98 : impl_isValue_T) (c_96 : impl_isCell_T) (l : List (List Int)) (k : (Bool) → PM.R) : PM.R :=
  impl_RowsOk_l0 A c_98 c_96 A.fuel l l (A.vlen l) 0 (fun t269 =>
    k t269) (fun l810 =>
    k (A.le (A.vlen l810) 300))
noncomputable def impl_RowsOk (A : PM.Prims) : impl_RowsOk_T := impl_RowsOk_f A (impl_isValue A) (impl_isCell A)
noncomputable def impl_RowsOk_L (A : PM.Prims) (c_98 : impl_isValue_T) (c_96 : impl_isCell_T) (n : Nat) : PM.Lam := fun cur σ K =>
  match cur, σ, K with
  | 0, ⟨[(0, .arr (.vecs 135 2 l1)), (5, .arr (.vecs 135 2 t52)), (6, .int .i64 t63), (7, .int .i64 t74)], []⟩, K => impl_RowsOk_l0 A c_98 c_96 n l1 t52 t63 t74 (fun t26 => K .ret ⟨[(2, .bool t26)], []⟩) (fun l8 => K (.exit 0) ⟨[(0, .arr (.vecs 135 2 l8))], []⟩)
  | _, _, _ => none
noncomputable def impl_RowsOk_E (A : PM.Prims) (c_98 : impl_isValue_T) (c_96 : impl_isCell_T) : PM.Env := ⟨[(98, ⟨[], impl_isValue_w c_98, none⟩), (96, ⟨[], impl_isCell_w c_96, none⟩)], [], [(0, [0, 5, 6, 7], [0, 2])], [(0, [0]), (1, [0, 5, 6, 7]), (2, [0, 5, 6, 7, 8]), (3, [0, 4, 5, 6, 7]), (4, [0, 5, 6, 7, 20]), (5, [2]), (6, [0, 5, 6, 7]), (7, [2])], impl_RowsOk_L A c_98 c_96 A.fuel⟩
theorem impl_RowsOk_l0_ok (A : PM.Prims) (c_98 : impl_isValue_T) (c_96 : impl_isCell_T) (n : Nat) (l1 : List (List Int)) (t52 : List (List Int)) (t63 : Int) (t74 : Int) (K : Go.Exit → PM.S → PM.R) : impl_RowsOk_L A c_98 c_96 (n + 1) 0 ⟨[(0, .arr (.vecs 135 2 l1)), (5, .arr (.vecs 135 2 t52)), (6, .int .i64 t63), (7, .int .i64 t74)], []⟩ K = PM.roundF A cx (PM.runD A cx (impl_RowsOk_E A c_98 c_96).inl (impl_RowsOk_E A c_98 c_96).Γ 3) (impl_RowsOk_E A c_98 c_96) (impl_RowsOk_L A c_98 c_96 n) 0 Go.Proofs.Try.f124 ⟨[(0, .arr (.vecs 135 2 l1)), (5, .arr (.vecs 135 2 t52)), (6, .int .i64 t63), (7, .int .i64 t74)], []⟩ K := by kernel_rfl
theorem impl_RowsOk_ok (A : PM.Prims) (c_98 : impl_isValue_T) (c_96 : impl_isCell_T) (l : List (List Int)) (k : PM.V → PM.R) : PM.pfun A cx [] (impl_RowsOk_E A c_98 c_96) Go.Proofs.Try.f124 [.arr (.vecs 135 2 l)] k = impl_RowsOk_f A c_98 c_96 l (fun r0 => k (.bool r0)) := by kernel_rfl

theorem impl_RowsOk_fn : PM.FnIs Try.prog 124 Try.f124 := .of Try.func124 (by kernel_rfl) (by kernel_rfl)
theorem impl_RowsOk_g : PM.GOk Try.prog cx 124 ⟨[], impl_RowsOk_w (impl_RowsOk PM.std), none⟩ := by
  refine ⟨impl_RowsOk_fn.enter, fun _ ds k r h => ?_, fun hm => absurd rfl hm, fun _ e => (by cases e)⟩
  change impl_RowsOk_w (impl_RowsOk PM.std) ds k = some r at h
  unfold impl_RowsOk_w at h
  split at h
  · exact PM.pfun_ok (E := impl_RowsOk_E PM.std (impl_isValue PM.std) (impl_isCell PM.std)) (L := fun n => impl_RowsOk_L PM.std (impl_isValue PM.std) (impl_isCell PM.std) n) (N := PM.std.fuel) cx_ok (.cons impl_isValue_g (.cons impl_isCell_g .nil)) mixed .nil impl_RowsOk_fn (by kernel_rfl) ⟨rfl, fun cur σ K => by
      dsimp only [impl_RowsOk_L]
      split <;> rfl, fun n cur σ K r h => by
      dsimp only [impl_RowsOk_L] at h
      split at h
      · exact (impl_RowsOk_l0_ok PM.std (impl_isValue PM.std) (impl_isCell PM.std) n _ _ _ _ K).symm.trans h
      · cases h⟩
      ((impl_RowsOk_ok PM.std (impl_isValue PM.std) (impl_isCell PM.std) _ k).trans h)
  · cases h

abbrev impl_Commit_steps_T := (Int) → (Int) → (Int) → (Int) → (Int) → (List (List Int)) → (List Int) → ((Int) → PM.R) → PM.R
noncomputable def impl_Commit_steps_w (c : impl_Commit_steps_T) (ds : List PM.V) (k : PM.V → PM.R) : PM.R :=
  match ds with
  | [.agg [.int .i64 c_Who, .int .i64 c_Rv, .int .i64 c_Phase, .int .i64 c_At, .int .i64 c_Wv, .arr (.vecs 135 2 c_Puts), .arr (.ints 3 .i64 c_Reads)]] => c c_Who c_Rv c_Phase c_At c_Wv c_Puts c_Reads (fun r0 => k (.int .i64 r0))
  | _ => none
noncomputable def impl_Commit_steps_f (A : PM.Prims) (c_Who : Int) (c_Rv : Int) (c_Phase : Int) (c_At : Int) (c_Wv : Int) (c_Puts : List (List Int)) (c_Reads : List Int) (k : (Int) → PM.R) : PM.R :=
  bif (A.eq c_Phase 1) then
    k (A.vlen c_Puts)
  else
    bif (A.eq c_Phase 4) then
      k (A.vlen c_Puts)
    else
      bif (A.eq c_Phase 5) then
        k (A.vlen c_Puts)
      else
        bif (A.eq c_Phase 7) then
          k (A.vlen c_Puts)
        else
          bif (A.eq c_Phase 3) then
            k (A.ilen c_Reads)
          else
            k 1
noncomputable def impl_Commit_steps (A : PM.Prims) : impl_Commit_steps_T := impl_Commit_steps_f A
noncomputable def impl_Commit_steps_L (A : PM.Prims) (n : Nat) : PM.Lam := fun cur σ K =>
  match cur, σ, K with
  | _, _, _ => none
noncomputable def impl_Commit_steps_E (A : PM.Prims) : PM.Env := ⟨[], [], [], [(0, [1]), (1, [1, 4]), (2, [1, 4, 5]), (3, [1, 4, 5]), (4, [1, 4, 5]), (5, [1, 4, 5]), (6, [2]), (7, [1, 13]), (8, [2]), (9, [2])], impl_Commit_steps_L A A.fuel⟩
theorem impl_Commit_steps_ok (A : PM.Prims) (c_Who : Int) (c_Rv : Int) (c_Phase : Int) (c_At : Int) (c_Wv : Int) (c_Puts : List (List Int)) (c_Reads : List Int) (k : PM.V → PM.R) : PM.pfun A cx [] (impl_Commit_steps_E A) Go.Proofs.Try.f125 [.agg [.int .i64 c_Who, .int .i64 c_Rv, .int .i64 c_Phase, .int .i64 c_At, .int .i64 c_Wv, .arr (.vecs 135 2 c_Puts), .arr (.ints 3 .i64 c_Reads)]] k = impl_Commit_steps_f A c_Who c_Rv c_Phase c_At c_Wv c_Puts c_Reads (fun r0 => k (.int .i64 r0)) := by kernel_rfl

theorem impl_Commit_steps_fn : PM.FnIs Try.prog 125 Try.f125 := .of Try.func125 (by kernel_rfl) (by kernel_rfl)
theorem impl_Commit_steps_g : PM.GOk Try.prog cx 125 ⟨[], impl_Commit_steps_w (impl_Commit_steps PM.std), none⟩ := by
  refine ⟨impl_Commit_steps_fn.enter, fun _ ds k r h => ?_, fun hm => absurd rfl hm, fun _ e => (by cases e)⟩
  change impl_Commit_steps_w (impl_Commit_steps PM.std) ds k = some r at h
  unfold impl_Commit_steps_w at h
  split at h
  · exact PM.pfun_ok (E := impl_Commit_steps_E PM.std) (L := fun n => impl_Commit_steps_L PM.std n) (N := PM.std.fuel) cx_ok .nil mixed .nil impl_Commit_steps_fn (by kernel_rfl) ⟨rfl, fun _ _ _ => rfl, fun n cur σ K r h => by cases h⟩
      ((impl_Commit_steps_ok PM.std _ _ _ _ _ _ _ k).trans h)
  · cases h

abbrev impl_CommitOk_T := (Int) → (Int) → (Int) → (Int) → (Int) → (List (List Int)) → (List Int) → ((Bool) → PM.R) → PM.R
noncomputable def impl_CommitOk_w (c : impl_CommitOk_T) (ds : List PM.V) (k : PM.V → PM.R) : PM.R :=
  match ds with
  | [.agg [.int .i64 ___Who, .int .i64 ___Rv, .int .i64 ___Phase, .int .i64 ___At, .int .i64 ___Wv, .arr (.vecs 135 2 ___Puts), .arr (.ints 3 .i64 ___Reads)]] => c ___Who ___Rv ___Phase ___At ___Wv ___Puts ___Reads (fun r0 => k (.bool r0))
  | _ => none
noncomputable def impl_CommitOk_l2 (A : PM.Prims) (c_97 : impl_within_T) (c_96 : impl_isCell_T) (c_123 : impl_isOwner_T) (c_124 : impl_RowsOk_T) (c_125 : impl_Commit_steps_T) : Nat → (List Int) → (Int) → (Int) → (Int) → (Int) → (Int) → (Int) → (Int) → (List (List Int)) → (List Int) → ((Bool) → PM.R) → ((Int) → (Int) → (Int) → (Int) → (Int) → (List (List Int)) → (List Int) → PM.R) → PM.R
  | 0, _, _, _, _, _, _, _, _, _, _, _, _ => none
  | n + 1, t5630, t5731, t5832, o033, o034, o035, o036, o037, o038, o039, kret_2, kx2_2 =>
    bif (A.lt t5832 t5731) then
      bif (A.inb t5832 (A.ilen t5630)) then
        c_96 (A.iget t5630 t5832) (fun r40 =>
          bif (A.not r40) then
            kret_2 false
          else
            bif (A.lt 0 t5832) then
              bif (A.inb (A.sub .i64 t5832 1) (A.ilen o039)) then
                bif (A.le (A.iget t5630 t5832) (A.iget o039 (A.sub .i64 t5832 1))) then
                  kret_2 false
                else
                  impl_CommitOk_l2 A c_97 c_96 c_123 c_124 c_125 n t5630 t5731 (A.add .i64 t5832 1) o033 o034 o035 o036 o037 o038 o039 kret_2 kx2_2
              else
                none
            else
              impl_CommitOk_l2 A c_97 c_96 c_123 c_124 c_125 n t5630 t5731 (A.add .i64 t5832 1) o033 o034 o035 o036 o037 o038 o039 kret_2 kx2_2)
      else
        none
    else
      kx2_2 o033 o034 o035 o036 o037 o038 o039
noncomputable def impl_CommitOk_l0 (A : PM.Prims) (c_97 : impl_within_T) (c_96 : impl_isCell_T) (c_123 : impl_isOwner_T) (c_124 : impl_RowsOk_T) (c_125 : impl_Commit_steps_T) : Nat → (Int) → (Int) → (Int) → (Int) → (Int) → (Int) → (List (List Int)) → (List Int) → ((Bool) → PM.R) → ((Int) → (Int) → (Int) → (Int) → (Int) → (List (List Int)) → (List Int) → PM.R) → PM.R
  | 0, _, _, _, _, _, _, _, _, _, _ => none
  | n + 1, i6, o07, o08, o09, o010, o011, o012, o013, kret_0, kx0_0 =>
    bif (A.lt i6 (A.vlen o012)) then
      bif (A.inb (A.sub .i64 i6 1) (A.vlen o012)) then
        bif (A.inb i6 (A.vlen o012)) then
          bif (A.le (A.vget o012 i6 0) (A.vget o012 (A.sub .i64 i6 1) 0)) then
            kret_0 false
          else
            impl_CommitOk_l0 A c_97 c_96 c_123 c_124 c_125 n (A.add .i64 i6 1) o07 o08 o09 o010 o011 o012 o013 kret_0 kx0_0
        else
          none
      else
        none
    else
      kx0_0 o07 o08 o09 o010 o011 o012 o013
noncomputable def impl_CommitOk_f (A : PM.Prims) (c_97 : impl_within_T) (c_96 : impl_isCell_T) (c_123 : impl_isOwner_T) (c_124 : impl_RowsOk_T) (c_125 : impl_Commit_steps_T) (___Who : Int) (___Rv : Int) (___Phase : Int) (___At : Int) (___Wv : Int) (___Puts : List (List Int)) (___Reads : List Int) (k : (Bool) → PM.R) : PM.R :=
  c_123 ___Who (fun r1 =>
    bif (A.not r1) then
      k false
    else
      c_97 ___Rv 0 1000000 (fun r2 =>
        bif (A.not r2) then
          k false
        else
          c_97 ___Wv 0 1000000 (fun r3 =>
            bif (A.not r3) then
              k false
            else
              c_97 ___Phase 1 8 (fun r4 =>
                bif (A.not r4) then
                  k false
                else
                  c_124 ___Puts (fun r5 =>
                    bif (A.not r5) then
                      k false
                    else
                      impl_CommitOk_l0 A c_97 c_96 c_123 c_124 c_125 A.fuel 1 ___Who ___Rv ___Phase ___At ___Wv ___Puts ___Reads (fun t21422 =>
                        k t21422) (fun o01523 o01624 o01725 o01826 o01927 o02028 o02129 =>
                        impl_CommitOk_l2 A c_97 c_96 c_123 c_124 c_125 A.fuel o02129 (A.ilen o02129) 0 o01523 o01624 o01725 o01826 o01927 o02028 o02129 (fun t24149 =>
                          k t24149) (fun o04250 o04351 o04452 o04553 o04654 o04755 o04856 =>
                          c_125 o04250 o04351 o04452 o04553 o04654 o04755 o04856 (fun r57 =>
                            c_97 o04553 0 (A.sub .i64 r57 1) (fun r58 =>
                              k r58)))))))))
noncomputable def impl_CommitOk (A : PM.Prims) : impl_CommitOk_T := impl_CommitOk_f A (impl_within A) (impl_isCell A) (impl_isOwner A) (impl_RowsOk A) (impl_Commit_steps A)
noncomputable def impl_CommitOk_L (A : PM.Prims) (c_97 : impl_within_T) (c_96 : impl_isCell_T) (c_123 : impl_isOwner_T) (c_124 : impl_RowsOk_T) (c_125 : impl_Commit_steps_T) (n : Nat) : PM.Lam := fun cur σ K =>
  match cur, σ, K with
  | 0, ⟨[(1, .pbox 0 0), (3, .int .i64 i6)], [(0, .box [.int .i64 o07, .int .i64 o08, .int .i64 o09, .int .i64 o010, .int .i64 o011, .arr (.vecs 135 2 o012), .arr (.ints 3 .i64 o013)])]⟩, K => impl_CommitOk_l0 A c_97 c_96 c_123 c_124 c_125 n i6 o07 o08 o09 o010 o011 o012 o013 (fun t214 => K .ret ⟨[(2, .bool t214)], []⟩) (fun o015 o016 o017 o018 o019 o020 o021 => K (.exit 0) ⟨[(1, .pbox 0 0)], [(0, .box [.int .i64 o015, .int .i64 o016, .int .i64 o017, .int .i64 o018, .int .i64 o019, .arr (.vecs 135 2 o020), .arr (.ints 3 .i64 o021)])]⟩)
  | 2, ⟨[(1, .pbox 0 0), (56, .arr (.ints 3 .i64 t5630)), (57, .int .i64 t5731), (58, .int .i64 t5832)], [(0, .box [.int .i64 o033, .int .i64 o034, .int .i64 o035, .int .i64 o036, .int .i64 o037, .arr (.vecs 135 2 o038), .arr (.ints 3 .i64 o039)])]⟩, K => impl_CommitOk_l2 A c_97 c_96 c_123 c_124 c_125 n t5630 t5731 t5832 o033 o034 o035 o036 o037 o038 o039 (fun t241 => K .ret ⟨[(2, .bool t241)], []⟩) (fun o042 o043 o044 o045 o046 o047 o048 => K (.exit 2) ⟨[(1, .pbox 0 0)], [(0, .box [.int .i64 o042, .int .i64 o043, .int .i64 o044, .int .i64 o045, .int .i64 o046, .arr (.vecs 135 2 o047), .arr (.ints 3 .i64 o048)])]⟩)
  | _, _, _ => none
noncomputable def impl_CommitOk_E (A : PM.Prims) (c_97 : impl_within_T) (c_96 : impl_isCell_T) (c_123 : impl_isOwner_T) (c_124 : impl_RowsOk_T) (c_125 : impl_Commit_steps_T) : PM.Env := ⟨[(97, ⟨[], impl_within_w c_97, none⟩), (96, ⟨[], impl_isCell_w c_96, none⟩), (123, ⟨[], impl_isOwner_w c_123, none⟩), (124, ⟨[], impl_RowsOk_w c_124, none⟩), (125, ⟨[], impl_Commit_steps_w c_125, none⟩)], [], [(0, [1, 3], [1, 2]), (2, [1, 56, 57, 58], [1, 2])], [(0, [1]), (1, [1, 33]), (2, [2]), (3, [1, 3]), (4, [1, 3, 38]), (5, [1, 3]), (6, [1, 3, 54]), (7, [2]), (8, [1, 56, 57, 58]), (9, [1, 56, 57, 58, 59]), (10, [1, 4, 5, 56, 57, 58]), (11, [1, 56, 57, 58, 79]), (12, [2]), (13, [1, 56, 57, 58]), (14, [2])], impl_CommitOk_L A c_97 c_96 c_123 c_124 c_125 A.fuel⟩
theorem impl_CommitOk_l0_ok (A : PM.Prims) (c_97 : impl_within_T) (c_96 : impl_isCell_T) (c_123 : impl_isOwner_T) (c_124 : impl_RowsOk_T) (c_125 : impl_Commit_steps_T) (n : Nat) (i6 : Int) (o07 : Int) (o08 : Int) (o09 : Int) (o010 : Int) (o011 : Int) (o012 : List (List Int)) (o013 : List Int) (K : Go.Exit → PM.S → PM.R) : impl_CommitOk_L A c_97 c_96 c_123 c_124 c_125 (n + 1) 0 ⟨[(1, .pbox 0 0), (3, .int .i64 i6)], [(0, .box [.int .i64 o07, .int .i64 o08, .int .i64 o09, .int .i64 o010, .int .i64 o011, .arr (.vecs 135 2 o012), .arr (.ints 3 .i64 o013)])]⟩ K = PM.roundF A cx (PM.runD A cx (impl_CommitOk_E A c_97 c_96 c_123 c_124 c_125).inl (impl_CommitOk_E A c_97 c_96 c_123 c_124 c_125).Γ 3) (impl_CommitOk_E A c_97 c_96 c_123 c_124 c_125) (impl_CommitOk_L A c_97 c_96 c_123 c_124 c_125 n) 0 Go.Proofs.Try.f62 ⟨[(1, .pbox 0 0), (3, .int .i64 i6)], [(0, .box [.int .i64 o07, .int .i64 o08, .int .i64 o09, .int .i64 o010, .int .i64 o011, .arr (.vecs 135 2 o012), .arr (.ints 3 .i64 o013)])]⟩ K := by kernel_rfl
theorem impl_CommitOk_l2_ok (A : PM.Prims) (c_97 : impl_within_T) (c_96 : impl_isCell_T) (c_123 : impl_isOwner_T) (c_124 : impl_RowsOk_T) (c_125 : impl_Commit_steps_T) (n : Nat) (t5630 : List Int) (t5731 : Int) (t5832 : Int) (o033 : Int) (o034 : Int) (o035 : Int) (o036 : Int) (o037 : Int) (o038 : List (List Int)) (o039 : List Int) (K : Go.Exit → PM.S → PM.R) : impl_CommitOk_L A c_97 c_96 c_123 c_124 c_125 (n + 1) 2 ⟨[(1, .pbox 0 0), (56, .arr (.ints 3 .i64 t5630)), (57, .int .i64 t5731), (58, .int .i64 t5832)], [(0, .box [.int .i64 o033, .int .i64 o034, .int .i64 o035, .int .i64 o036, .int .i64 o037, .arr (.vecs 135 2 o038), .arr (.ints 3 .i64 o039)])]⟩ K = PM.roundF A cx (PM.runD A cx (impl_CommitOk_E A c_97 c_96 c_123 c_124 c_125).inl (impl_CommitOk_E A c_97 c_96 c_123 c_124 c_125).Γ 3) (impl_CommitOk_E A c_97 c_96 c_123 c_124 c_125) (impl_CommitOk_L A c_97 c_96 c_123 c_124 c_125 n) 2 Go.Proofs.Try.f62 ⟨[(1, .pbox 0 0), (56, .arr (.ints 3 .i64 t5630)), (57, .int .i64 t5731), (58, .int .i64 t5832)], [(0, .box [.int .i64 o033, .int .i64 o034, .int .i64 o035, .int .i64 o036, .int .i64 o037, .arr (.vecs 135 2 o038), .arr (.ints 3 .i64 o039)])]⟩ K := by kernel_rfl
theorem impl_CommitOk_ok (A : PM.Prims) (c_97 : impl_within_T) (c_96 : impl_isCell_T) (c_123 : impl_isOwner_T) (c_124 : impl_RowsOk_T) (c_125 : impl_Commit_steps_T) (___Who : Int) (___Rv : Int) (___Phase : Int) (___At : Int) (___Wv : Int) (___Puts : List (List Int)) (___Reads : List Int) (k : PM.V → PM.R) : PM.pfun A cx [] (impl_CommitOk_E A c_97 c_96 c_123 c_124 c_125) Go.Proofs.Try.f62 [.agg [.int .i64 ___Who, .int .i64 ___Rv, .int .i64 ___Phase, .int .i64 ___At, .int .i64 ___Wv, .arr (.vecs 135 2 ___Puts), .arr (.ints 3 .i64 ___Reads)]] k = impl_CommitOk_f A c_97 c_96 c_123 c_124 c_125 ___Who ___Rv ___Phase ___At ___Wv ___Puts ___Reads (fun r0 => k (.bool r0)) := by kernel_rfl

theorem impl_CommitOk_fn : PM.FnIs Try.prog 62 Try.f62 := .of Try.func62 (by kernel_rfl) (by kernel_rfl)
theorem impl_CommitOk_g : PM.GOk Try.prog cx 62 ⟨[], impl_CommitOk_w (impl_CommitOk PM.std), none⟩ := by
  refine ⟨impl_CommitOk_fn.enter, fun _ ds k r h => ?_, fun hm => absurd rfl hm, fun _ e => (by cases e)⟩
  change impl_CommitOk_w (impl_CommitOk PM.std) ds k = some r at h
  unfold impl_CommitOk_w at h
  split at h
  · exact PM.pfun_ok (E := impl_CommitOk_E PM.std (impl_within PM.std) (impl_isCell PM.std) (impl_isOwner PM.std) (impl_RowsOk PM.std) (impl_Commit_steps PM.std)) (L := fun n => impl_CommitOk_L PM.std (impl_within PM.std) (impl_isCell PM.std) (impl_isOwner PM.std) (impl_RowsOk PM.std) (impl_Commit_steps PM.std) n) (N := PM.std.fuel) cx_ok (.cons impl_within_g (.cons impl_isCell_g (.cons impl_isOwner_g (.cons impl_RowsOk_g (.cons impl_Commit_steps_g .nil))))) mixed .nil impl_CommitOk_fn (by kernel_rfl) ⟨rfl, fun cur σ K => by
      dsimp only [impl_CommitOk_L]
      split <;> rfl, fun n cur σ K r h => by
      dsimp only [impl_CommitOk_L] at h
      split at h
      · exact (impl_CommitOk_l0_ok PM.std (impl_within PM.std) (impl_isCell PM.std) (impl_isOwner PM.std) (impl_RowsOk PM.std) (impl_Commit_steps PM.std) n _ _ _ _ _ _ _ _ K).symm.trans h
      · exact (impl_CommitOk_l2_ok PM.std (impl_within PM.std) (impl_isCell PM.std) (impl_isOwner PM.std) (impl_RowsOk PM.std) (impl_Commit_steps PM.std) n _ _ _ _ _ _ _ _ _ _ K).symm.trans h
      · cases h⟩
      ((impl_CommitOk_ok PM.std (impl_within PM.std) (impl_isCell PM.std) (impl_isOwner PM.std) (impl_RowsOk PM.std) (impl_Commit_steps PM.std) _ _ _ _ _ _ _ k).trans h)
  · cases h

abbrev laws_eqRow_T := (Int) → (Int) → (Int) → (Int) → ((Bool) → PM.R) → PM.R
noncomputable def laws_eqRow_w (c : laws_eqRow_T) (ds : List PM.V) (k : PM.V → PM.R) : PM.R :=
  match ds with
  | [.agg [.int .i64 a_Cell, .int .i64 a_Val], .agg [.int .i64 b_Cell, .int .i64 b_Val]] => c a_Cell a_Val b_Cell b_Val (fun r0 => k (.bool r0))
  | _ => none
noncomputable def laws_eqRow_f (A : PM.Prims) (a_Cell : Int) (a_Val : Int) (b_Cell : Int) (b_Val : Int) (k : (Bool) → PM.R) : PM.R :=
  bif (A.not (A.eq a_Cell b_Cell)) then
    k false
  else
    bif (A.not (A.eq a_Val b_Val)) then
      k false
    else
      k true
noncomputable def laws_eqRow (A : PM.Prims) : laws_eqRow_T := laws_eqRow_f A
noncomputable def laws_eqRow_L (A : PM.Prims) (n : Nat) : PM.Lam := fun cur σ K =>
  match cur, σ, K with
  | _, _, _ => none
noncomputable def laws_eqRow_E (A : PM.Prims) : PM.Env := ⟨[], [], [], [(0, [2, 3]), (1, [2, 3, 9]), (2, [4]), (3, [14]), (4, [4]), (5, [4])], laws_eqRow_L A A.fuel⟩
theorem laws_eqRow_ok (A : PM.Prims) (a_Cell : Int) (a_Val : Int) (b_Cell : Int) (b_Val : Int) (k : PM.V → PM.R) : PM.pfun A cx [] (laws_eqRow_E A) Go.Proofs.Try.f129 [.agg [.int .i64 a_Cell, .int .i64 a_Val], .agg [.int .i64 b_Cell, .int .i64 b_Val]] k = laws_eqRow_f A a_Cell a_Val b_Cell b_Val (fun r0 => k (.bool r0)) := by kernel_rfl

theorem laws_eqRow_fn : PM.FnIs Try.prog 129 Try.f129 := .of Try.func129 (by kernel_rfl) (by kernel_rfl)
theorem laws_eqRow_g : PM.GOk Try.prog cx 129 ⟨[], laws_eqRow_w (laws_eqRow PM.std), none⟩ := by
  refine ⟨laws_eqRow_fn.enter, fun _ ds k r h => ?_, fun hm => absurd rfl hm, fun _ e => (by cases e)⟩
  change laws_eqRow_w (laws_eqRow PM.std) ds k = some r at h
  unfold laws_eqRow_w at h
  split at h
  · exact PM.pfun_ok (E := laws_eqRow_E PM.std) (L := fun n => laws_eqRow_L PM.std n) (N := PM.std.fuel) cx_ok .nil mixed .nil laws_eqRow_fn (by kernel_rfl) ⟨rfl, fun _ _ _ => rfl, fun n cur σ K r h => by cases h⟩
      ((laws_eqRow_ok PM.std _ _ _ _ k).trans h)
  · cases h

abbrev laws_eqRowS_T := (List (List Int)) → (List (List Int)) → ((Bool) → PM.R) → PM.R
noncomputable def laws_eqRowS_w (c : laws_eqRowS_T) (ds : List PM.V) (k : PM.V → PM.R) : PM.R :=
  match ds with
  | [.arr (.vecs 135 2 a), .arr (.vecs 135 2 b)] => c a b (fun r0 => k (.bool r0))
  | _ => none
noncomputable def laws_eqRowS_l0 (A : PM.Prims) (c_129 : laws_eqRow_T) : Nat → (List (List Int)) → (List (List Int)) → (Int) → ((Bool) → PM.R) → (Unit → PM.R) → PM.R
  | 0, _, _, _, _, _ => none
  | n + 1, a1, b2, i3, kret_0, kx0_0 =>
    bif (A.lt i3 (A.vlen a1)) then
      bif (A.inb i3 (A.vlen a1)) then
        bif (A.inb i3 (A.vlen b2)) then
          c_129 (A.vget a1 i3 0) (A.vget a1 i3 1) (A.vget b2 i3 0) (A.vget b2 i3 1) (fun r4 =>
            bif (A.not r4) then
              kret_0 false
            else
              laws_eqRowS_l0 A c_129 n a1 b2 (A.add .i64 i3 1) kret_0 kx0_0)
        else
          none
      else
        none
    else
      kx0_0 ()
noncomputable def laws_eqRowS_f (A : PM.Prims) (c_129 : laws_eqRow_T) (a : List (List Int)) (b : List (List Int)) (k : (Bool) → PM.R) : PM.R :=
  bif (A.not (A.eq (A.vlen a) (A.vlen b))) then
    k false
  else
    laws_eqRowS_l0 A c_129 A.fuel a b 0 (fun t456 =>
      k t456) (fun _ =>
      k true)
noncomputable def laws_eqRowS (A : PM.Prims) : laws_eqRowS_T := laws_eqRowS_f A (laws_eqRow A)
noncomputable def laws_eqRowS_L (A : PM.Prims) (c_129 : laws_eqRow_T) (n : Nat) : PM.Lam := fun cur σ K =>
  match cur, σ, K with
  | 0, ⟨[(0, .arr (.vecs 135 2 a1)), (1, .arr (.vecs 135 2 b2)), (5, .int .i64 i3)], []⟩, K => laws_eqRowS_l0 A c_129 n a1 b2 i3 (fun t45 => K .ret ⟨[(4, .bool t45)], []⟩) (fun _ => K (.exit 0) ⟨[], []⟩)
  | _, _, _ => none
noncomputable def laws_eqRowS_E (A : PM.Prims) (c_129 : laws_eqRow_T) : PM.Env := ⟨[(129, ⟨[], laws_eqRow_w c_129, none⟩)], [], [(0, [0, 1, 5], [4])], [(0, [0, 1]), (1, [0, 1, 10]), (2, [4]), (3, [0, 1, 5]), (4, [0, 1, 5, 14]), (5, [0, 1, 5]), (6, [0, 1, 5, 26]), (7, [4]), (8, [4])], laws_eqRowS_L A c_129 A.fuel⟩
theorem laws_eqRowS_l0_ok (A : PM.Prims) (c_129 : laws_eqRow_T) (n : Nat) (a1 : List (List Int)) (b2 : List (List Int)) (i3 : Int) (K : Go.Exit → PM.S → PM.R) : laws_eqRowS_L A c_129 (n + 1) 0 ⟨[(0, .arr (.vecs 135 2 a1)), (1, .arr (.vecs 135 2 b2)), (5, .int .i64 i3)], []⟩ K = PM.roundF A cx (PM.runD A cx (laws_eqRowS_E A c_129).inl (laws_eqRowS_E A c_129).Γ 3) (laws_eqRowS_E A c_129) (laws_eqRowS_L A c_129 n) 0 Go.Proofs.Try.f70 ⟨[(0, .arr (.vecs 135 2 a1)), (1, .arr (.vecs 135 2 b2)), (5, .int .i64 i3)], []⟩ K := by kernel_rfl
theorem laws_eqRowS_ok (A : PM.Prims) (c_129 : laws_eqRow_T) (a : List (List Int)) (b : List (List Int)) (k : PM.V → PM.R) : PM.pfun A cx [] (laws_eqRowS_E A c_129) Go.Proofs.Try.f70 [.arr (.vecs 135 2 a), .arr (.vecs 135 2 b)] k = laws_eqRowS_f A c_129 a b (fun r0 => k (.bool r0)) := by kernel_rfl

theorem laws_eqRowS_fn : PM.FnIs Try.prog 70 Try.f70 := .of Try.func70 (by kernel_rfl) (by kernel_rfl)
theorem laws_eqRowS_g : PM.GOk Try.prog cx 70 ⟨[], laws_eqRowS_w (laws_eqRowS PM.std), none⟩ := by
  refine ⟨laws_eqRowS_fn.enter, fun _ ds k r h => ?_, fun hm => absurd rfl hm, fun _ e => (by cases e)⟩
  change laws_eqRowS_w (laws_eqRowS PM.std) ds k = some r at h
  unfold laws_eqRowS_w at h
  split at h
  · exact PM.pfun_ok (E := laws_eqRowS_E PM.std (laws_eqRow PM.std)) (L := fun n => laws_eqRowS_L PM.std (laws_eqRow PM.std) n) (N := PM.std.fuel) cx_ok (.cons laws_eqRow_g .nil) mixed .nil laws_eqRowS_fn (by kernel_rfl) ⟨rfl, fun cur σ K => by
      dsimp only [laws_eqRowS_L]
      split <;> rfl, fun n cur σ K r h => by
      dsimp only [laws_eqRowS_L] at h
      split at h
      · exact (laws_eqRowS_l0_ok PM.std (laws_eqRow PM.std) n _ _ _ K).symm.trans h
      · cases h⟩
      ((laws_eqRowS_ok PM.std (laws_eqRow PM.std) _ _ k).trans h)
  · cases h

abbrev laws_eqCommit_T := (Int) → (Int) → (Int) → (Int) → (Int) → (List (List Int)) → (List Int) → (Int) → (Int) → (Int) → (Int) → (Int) → (List (List Int)) → (List Int) → ((Bool) → PM.R) → PM.R
noncomputable def laws_eqCommit_w (c : laws_eqCommit_T) (ds : List PM.V) (k : PM.V → PM.R) : PM.R :=
  match ds with
  | [.agg [.int .i64 a_Who, .int .i64 a_Rv, .int .i64 a_Phase, .int .i64 a_At, .int .i64 a_Wv, .arr (.vecs 135 2 a_Puts), .arr (.ints 3 .i64 a_Reads)], .agg [.int .i64 b_Who, .int .i64 b_Rv, .int .i64 b_Phase, .int .i64 b_At, .int .i64 b_Wv, .arr (.vecs 135 2 b_Puts), .arr (.ints 3 .i64 b_Reads)]] => c a_Who a_Rv a_Phase a_At a_Wv a_Puts a_Reads b_Who b_Rv b_Phase b_At b_Wv b_Puts b_Reads (fun r0 => k (.bool r0))
  | _ => none
noncomputable def laws_eqCommit_f (A : PM.Prims) (c_45 : laws_eqIntS_T) (c_70 : laws_eqRowS_T) (a_Who : Int) (a_Rv : Int) (a_Phase : Int) (a_At : Int) (a_Wv : Int) (a_Puts : List (List Int)) (a_Reads : List Int) (b_Who : Int) (b_Rv : Int) (b_Phase : Int) (b_At : Int) (b_Wv : Int) (b_Puts : List (List Int)) (b_Reads : List Int) (k : (Bool) → PM.R) : PM.R :=
  bif (A.not (A.eq a_Who b_Who)) then
    k false
  else
    bif (A.not (A.eq a_Rv b_Rv)) then
      k false
    else
      bif (A.not (A.eq a_Phase b_Phase)) then
        k false
      else
        bif (A.not (A.eq a_At b_At)) then
          k false
        else
          bif (A.not (A.eq a_Wv b_Wv)) then
            k false
          else
            c_70 a_Puts b_Puts (fun r1 =>
              bif (A.not r1) then
                k false
              else
                c_45 a_Reads b_Reads (fun r2 =>
                  bif (A.not r2) then
                    k false
                  else
                    k true))
noncomputable def laws_eqCommit (A : PM.Prims) : laws_eqCommit_T := laws_eqCommit_f A (laws_eqIntS A) (laws_eqRowS A)
noncomputable def laws_eqCommit_L (A : PM.Prims) (c_45 : laws_eqIntS_T) (c_70 : laws_eqRowS_T) (n : Nat) : PM.Lam := fun cur σ K =>
  match cur, σ, K with
  | _, _, _ => none
noncomputable def laws_eqCommit_E (A : PM.Prims) (c_45 : laws_eqIntS_T) (c_70 : laws_eqRowS_T) : PM.Env := ⟨[(45, ⟨[], laws_eqIntS_w c_45, none⟩), (70, ⟨[], laws_eqRowS_w c_70, none⟩)], [], [], [(0, [2, 3]), (1, [2, 3, 9]), (2, [4]), (3, [2, 3, 14]), (4, [4]), (5, [2, 3, 19]), (6, [4]), (7, [2, 3, 24]), (8, [4]), (9, [2, 3, 29]), (10, [4]), (11, [2, 3, 35]), (12, [4]), (13, [41]), (14, [4]), (15, [4])], laws_eqCommit_L A c_45 c_70 A.fuel⟩
theorem laws_eqCommit_ok (A : PM.Prims) (c_45 : laws_eqIntS_T) (c_70 : laws_eqRowS_T) (a_Who : Int) (a_Rv : Int) (a_Phase : Int) (a_At : Int) (a_Wv : Int) (a_Puts : List (List Int)) (a_Reads : List Int) (b_Who : Int) (b_Rv : Int) (b_Phase : Int) (b_At : Int) (b_Wv : Int) (b_Puts : List (List Int)) (b_Reads : List Int) (k : PM.V → PM.R) : PM.pfun A cx [] (laws_eqCommit_E A c_45 c_70) Go.Proofs.Try.f63 [.agg [.int .i64 a_Who, .int .i64 a_Rv, .int .i64 a_Phase, .int .i64 a_At, .int .i64 a_Wv, .arr (.vecs 135 2 a_Puts), .arr (.ints 3 .i64 a_Reads)], .agg [.int .i64 b_Who, .int .i64 b_Rv, .int .i64 b_Phase, .int .i64 b_At, .int .i64 b_Wv, .arr (.vecs 135 2 b_Puts), .arr (.ints 3 .i64 b_Reads)]] k = laws_eqCommit_f A c_45 c_70 a_Who a_Rv a_Phase a_At a_Wv a_Puts a_Reads b_Who b_Rv b_Phase b_At b_Wv b_Puts b_Reads (fun r0 => k (.bool r0)) := by kernel_rfl

theorem laws_eqCommit_fn : PM.FnIs Try.prog 63 Try.f63 := .of Try.func63 (by kernel_rfl) (by kernel_rfl)
theorem laws_eqCommit_g : PM.GOk Try.prog cx 63 ⟨[], laws_eqCommit_w (laws_eqCommit PM.std), none⟩ := by
  refine ⟨laws_eqCommit_fn.enter, fun _ ds k r h => ?_, fun hm => absurd rfl hm, fun _ e => (by cases e)⟩
  change laws_eqCommit_w (laws_eqCommit PM.std) ds k = some r at h
  unfold laws_eqCommit_w at h
  split at h
  · exact PM.pfun_ok (E := laws_eqCommit_E PM.std (laws_eqIntS PM.std) (laws_eqRowS PM.std)) (L := fun n => laws_eqCommit_L PM.std (laws_eqIntS PM.std) (laws_eqRowS PM.std) n) (N := PM.std.fuel) cx_ok (.cons laws_eqIntS_g (.cons laws_eqRowS_g .nil)) mixed .nil laws_eqCommit_fn (by kernel_rfl) ⟨rfl, fun _ _ _ => rfl, fun n cur σ K r h => by cases h⟩
      ((laws_eqCommit_ok PM.std (laws_eqIntS PM.std) (laws_eqRowS PM.std) _ _ _ _ _ _ _ _ _ _ _ _ _ _ k).trans h)
  · cases h

abbrev laws_FnExactCommitOk_T := (Int) → (Int) → (Int) → (Int) → (Int) → (List (List Int)) → (List Int) → ((Bool) → PM.R) → PM.R
noncomputable def laws_FnExactCommitOk_w (c : laws_FnExactCommitOk_T) (ds : List PM.V) (k : PM.V → PM.R) : PM.R :=
  match ds with
  | [.agg [.int .i64 aC_Who, .int .i64 aC_Rv, .int .i64 aC_Phase, .int .i64 aC_At, .int .i64 aC_Wv, .arr (.vecs 139 2 aC_Puts), .arr (.ints 3 .i64 aC_Reads)]] => c aC_Who aC_Rv aC_Phase aC_At aC_Wv aC_Puts aC_Reads (fun r0 => k (.bool r0))
  | _ => none
noncomputable def laws_FnExactCommitOk_f (A : PM.Prims) (c_59 : laws_szCommit_T) (c_61 : laws_toCommit_T) (c_60 : spec_CommitOk_T) (c_62 : impl_CommitOk_T) (c_63 : laws_eqCommit_T) (aC_Who : Int) (aC_Rv : Int) (aC_Phase : Int) (aC_At : Int) (aC_Wv : Int) (aC_Puts : List (List Int)) (aC_Reads : List Int) (k : (Bool) → PM.R) : PM.R :=
  c_59 aC_Who aC_Rv aC_Phase aC_At aC_Wv aC_Puts aC_Reads 1048576 (fun r1 =>
    bif (A.lt r1 0) then
      k true
    else
      c_61 aC_Who aC_Rv aC_Phase aC_At aC_Wv aC_Puts aC_Reads (fun r2 r3 r4 r5 r6 r7 r8 =>
        c_60 r2 r3 r4 r5 r6 r7 r8 (fun r9 =>
          c_61 aC_Who aC_Rv aC_Phase aC_At aC_Wv aC_Puts aC_Reads (fun r10 r11 r12 r13 r14 r15 r16 =>
            c_62 r10 r11 r12 r13 r14 r15 r16 (fun r17 =>
              bif (A.not (A.beq r17 r9)) then
                k false
              else
                c_61 aC_Who aC_Rv aC_Phase aC_At aC_Wv aC_Puts aC_Reads (fun r18 r19 r20 r21 r22 r23 r24 =>
                  c_63 r10 r11 r12 r13 r14 r15 r16 r18 r19 r20 r21 r22 r23 r24 (fun r25 =>
                    bif (A.not r25) then
                      k false
                    else
                      k true)))))))
noncomputable def laws_FnExactCommitOk (A : PM.Prims) : laws_FnExactCommitOk_T := laws_FnExactCommitOk_f A (laws_szCommit A) (laws_toCommit A) (spec_CommitOk A) (impl_CommitOk A) (laws_eqCommit A)
noncomputable def laws_FnExactCommitOk_L (A : PM.Prims) (c_59 : laws_szCommit_T) (c_61 : laws_toCommit_T) (c_60 : spec_CommitOk_T) (c_62 : impl_CommitOk_T) (c_63 : laws_eqCommit_T) (n : Nat) : PM.Lam := fun cur σ K =>
  match cur, σ, K with
  | _, _, _ => none
noncomputable def laws_FnExactCommitOk_E (A : PM.Prims) (c_59 : laws_szCommit_T) (c_61 : laws_toCommit_T) (c_60 : spec_CommitOk_T) (c_62 : impl_CommitOk_T) (c_63 : laws_eqCommit_T) : PM.Env := ⟨[(59, ⟨[], laws_szCommit_w c_59, none⟩), (61, ⟨[], laws_toCommit_w c_61, none⟩), (60, ⟨[], spec_CommitOk_w c_60, none⟩), (62, ⟨[], impl_CommitOk_w c_62, none⟩), (63, ⟨[], laws_eqCommit_w c_63, none⟩)], [], [], [(0, [1]), (1, [1, 3]), (2, [1, 3]), (3, [1, 11]), (4, [2]), (5, [1, 4]), (6, [1, 4, 5]), (7, [1, 4, 5, 6]), (8, [1, 5, 21]), (9, [2]), (10, [26]), (11, [2]), (12, [2])], laws_FnExactCommitOk_L A c_59 c_61 c_60 c_62 c_63 A.fuel⟩
theorem laws_FnExactCommitOk_ok (A : PM.Prims) (c_59 : laws_szCommit_T) (c_61 : laws_toCommit_T) (c_60 : spec_CommitOk_T) (c_62 : impl_CommitOk_T) (c_63 : laws_eqCommit_T) (aC_Who : Int) (aC_Rv : Int) (aC_Phase : Int) (aC_At : Int) (aC_Wv : Int) (aC_Puts : List (List Int)) (aC_Reads : List Int) (k : PM.V → PM.R) : PM.pfun A cx [] (laws_FnExactCommitOk_E A c_59 c_61 c_60 c_62 c_63) Go.Proofs.Try.f14 [.agg [.int .i64 aC_Who, .int .i64 aC_Rv, .int .i64 aC_Phase, .int .i64 aC_At, .int .i64 aC_Wv, .arr (.vecs 139 2 aC_Puts), .arr (.ints 3 .i64 aC_Reads)]] k = laws_FnExactCommitOk_f A c_59 c_61 c_60 c_62 c_63 aC_Who aC_Rv aC_Phase aC_At aC_Wv aC_Puts aC_Reads (fun r0 => k (.bool r0)) := by kernel_rfl

theorem laws_FnExactCommitOk_fn : PM.FnIs Try.prog 14 Try.f14 := .of Try.func14 (by kernel_rfl) (by kernel_rfl)
theorem laws_FnExactCommitOk_g : PM.GOk Try.prog cx 14 ⟨[], laws_FnExactCommitOk_w (laws_FnExactCommitOk PM.std), none⟩ := by
  refine ⟨laws_FnExactCommitOk_fn.enter, fun _ ds k r h => ?_, fun hm => absurd rfl hm, fun _ e => (by cases e)⟩
  change laws_FnExactCommitOk_w (laws_FnExactCommitOk PM.std) ds k = some r at h
  unfold laws_FnExactCommitOk_w at h
  split at h
  · exact PM.pfun_ok (E := laws_FnExactCommitOk_E PM.std (laws_szCommit PM.std) (laws_toCommit PM.std) (spec_CommitOk PM.std) (impl_CommitOk PM.std) (laws_eqCommit PM.std)) (L := fun n => laws_FnExactCommitOk_L PM.std (laws_szCommit PM.std) (laws_toCommit PM.std) (spec_CommitOk PM.std) (impl_CommitOk PM.std) (laws_eqCommit PM.std) n) (N := PM.std.fuel) cx_ok (.cons laws_szCommit_g (.cons laws_toCommit_g (.cons spec_CommitOk_g (.cons impl_CommitOk_g (.cons laws_eqCommit_g .nil))))) mixed .nil laws_FnExactCommitOk_fn (by kernel_rfl) ⟨rfl, fun _ _ _ => rfl, fun n cur σ K r h => by cases h⟩
      ((laws_FnExactCommitOk_ok PM.std (laws_szCommit PM.std) (laws_toCommit PM.std) (spec_CommitOk PM.std) (impl_CommitOk PM.std) (laws_eqCommit PM.std) _ _ _ _ _ _ _ k).trans h)
  · cases h

abbrev spec_CommitLeft_T := (Int) → (Int) → (Int) → (Int) → (Int) → (List (List Int)) → (List Int) → ((Int) → PM.R) → PM.R
noncomputable def spec_CommitLeft_w (c : spec_CommitLeft_T) (ds : List PM.V) (k : PM.V → PM.R) : PM.R :=
  match ds with
  | [.agg [.int .i64 c_Who, .int .i64 c_Rv, .int .i64 c_Phase, .int .i64 c_At, .int .i64 c_Wv, .arr (.vecs 135 2 c_Puts), .arr (.ints 3 .i64 c_Reads)]] => c c_Who c_Rv c_Phase c_At c_Wv c_Puts c_Reads (fun r0 => k (.int .i64 r0))
  | _ => none
noncomputable def spec_CommitLeft_f (A : PM.Prims) (c_60 : spec_CommitOk_T) (c_Who : Int) (c_Rv : Int) (c_Phase : Int) (c_At : Int) (c_Wv : Int) (c_Puts : List (List Int)) (c_Reads : List Int) (k : (Int) → PM.R) : PM.R :=
  c_60 c_Who c_Rv c_Phase c_At c_Wv c_Puts c_Reads (fun r1 =>
    bif (A.not r1) then
      k 0
    else
      bif (A.eq c_Phase 1) then
        k (A.add .i64 (A.add .i64 (A.add .i64 (A.sub .i64 (A.vlen c_Puts) c_At) 1) (A.ilen c_Reads)) (A.mul .i64 2 (A.vlen c_Puts)))
      else
        bif (A.eq c_Phase 2) then
          k (A.add .i64 (A.add .i64 1 (A.ilen c_Reads)) (A.mul .i64 2 (A.vlen c_Puts)))
        else
          bif (A.eq c_Phase 3) then
            k (A.add .i64 (A.sub .i64 (A.ilen c_Reads) c_At) (A.mul .i64 2 (A.vlen c_Puts)))
          else
            bif (A.eq c_Phase 4) then
              k (A.sub .i64 (A.mul .i64 2 (A.vlen c_Puts)) c_At)
            else
              bif (A.eq c_Phase 5) then
                k (A.sub .i64 (A.vlen c_Puts) c_At)
              else
                bif (A.eq c_Phase 7) then
                  k (A.add .i64 c_At 1)
                else
                  k 0)
noncomputable def spec_CommitLeft (A : PM.Prims) : spec_CommitLeft_T := spec_CommitLeft_f A (spec_CommitOk A)
noncomputable def spec_CommitLeft_L (A : PM.Prims) (c_60 : spec_CommitOk_T) (n : Nat) : PM.Lam := fun cur σ K =>
  match cur, σ, K with
  | _, _, _ => none
noncomputable def spec_CommitLeft_E (A : PM.Prims) (c_60 : spec_CommitOk_T) : PM.Env := ⟨[(60, ⟨[], spec_CommitOk_w c_60, none⟩)], [], [], [(0, [1]), (1, [1, 6]), (2, [2]), (3, [1, 3]), (4, [1, 3, 11]), (5, [1, 3, 11, 12]), (6, [2]), (7, [1, 3, 11, 26]), (8, [2]), (9, [1, 3, 11, 35]), (10, [2]), (11, [1, 3, 11, 46]), (12, [2]), (13, [1, 3, 11, 53]), (14, [2]), (15, [1, 59]), (16, [2]), (17, [2])], spec_CommitLeft_L A c_60 A.fuel⟩
theorem spec_CommitLeft_ok (A : PM.Prims) (c_60 : spec_CommitOk_T) (c_Who : Int) (c_Rv : Int) (c_Phase : Int) (c_At : Int) (c_Wv : Int) (c_Puts : List (List Int)) (c_Reads : List Int) (k : PM.V → PM.R) : PM.pfun A cx [] (spec_CommitLeft_E A c_60) Go.Proofs.Try.f64 [.agg [.int .i64 c_Who, .int .i64 c_Rv, .int .i64 c_Phase, .int .i64 c_At, .int .i64 c_Wv, .arr (.vecs 135 2 c_Puts), .arr (.ints 3 .i64 c_Reads)]] k = spec_CommitLeft_f A c_60 c_Who c_Rv c_Phase c_At c_Wv c_Puts c_Reads (fun r0 => k (.int .i64 r0)) := by kernel_rfl

theorem spec_CommitLeft_fn : PM.FnIs Try.prog 64 Try.f64 := .of Try.func64 (by kernel_rfl) (by kernel_rfl)
theorem spec_CommitLeft_g : PM.GOk Try.prog cx 64 ⟨[], spec_CommitLeft_w (spec_CommitLeft PM.std), none⟩ := by
  refine ⟨spec_CommitLeft_fn.enter, fun _ ds k r h => ?_, fun hm => absurd rfl hm, fun _ e => (by cases e)⟩
  change spec_CommitLeft_w (spec_CommitLeft PM.std) ds k = some r at h
  unfold spec_CommitLeft_w at h
  split at h
  · exact PM.pfun_ok (E := spec_CommitLeft_E PM.std (spec_CommitOk PM.std)) (L := fun n => spec_CommitLeft_L PM.std (spec_CommitOk PM.std) n) (N := PM.std.fuel) cx_ok (.cons spec_CommitOk_g .nil) mixed .nil spec_CommitLeft_fn (by kernel_rfl) ⟨rfl, fun _ _ _ => rfl, fun n cur σ K r h => by cases h⟩
      ((spec_CommitLeft_ok PM.std (spec_CommitOk PM.std) _ _ _ _ _ _ _ k).trans h)
  · cases h

abbrev impl_CommitLeft_T := (Int) → (Int) → (Int) → (Int) → (Int) → (List (List Int)) → (List Int) → ((Int) → PM.R) → PM.R
noncomputable def impl_CommitLeft_w (c : impl_CommitLeft_T) (ds : List PM.V) (k : PM.V → PM.R) : PM.R :=
  match ds with
  | [.agg [.int .i64 c_Who, .int .i64 c_Rv, .int .i64 c_Phase, .int .i64 c_At, .int .i64 c_Wv, .arr (.vecs 135 2 c_Puts), .arr (.ints 3 .i64 c_Reads)]] => c c_Who c_Rv c_Phase c_At c_Wv c_Puts c_Reads (fun r0 => k (.int .i64 r0))
  | _ => none
noncomputable def impl_CommitLeft_f (A : PM.Prims) (c_62 : impl_CommitOk_T) (c_Who : Int) (c_Rv : Int) (c_Phase : Int) (c_At : Int) (c_Wv : Int) (c_Puts : List (List Int)) (c_Reads : List Int) (k : (Int) → PM.R) : PM.R :=
  c_62 c_Who c_Rv c_Phase c_At c_Wv c_Puts c_Reads (fun r1 =>
    bif (A.not r1) then
      k 0
    else
      bif (A.eq c_Phase 1) then
        k (A.add .i64 (A.add .i64 (A.add .i64 (A.sub .i64 (A.vlen c_Puts) c_At) 1) (A.ilen c_Reads)) (A.mul .i64 2 (A.vlen c_Puts)))
      else
        bif (A.eq c_Phase 2) then
          k (A.add .i64 (A.add .i64 1 (A.ilen c_Reads)) (A.mul .i64 2 (A.vlen c_Puts)))
        else
          bif (A.eq c_Phase 3) then
            k (A.add .i64 (A.sub .i64 (A.ilen c_Reads) c_At) (A.mul .i64 2 (A.vlen c_Puts)))
          else
            bif (A.eq c_Phase 4) then
              k (A.sub .i64 (A.mul .i64 2 (A.vlen c_Puts)) c_At)
            else
              bif (A.eq c_Phase 5) then
                k (A.sub .i64 (A.vlen c_Puts) c_At)
              else
                bif (A.eq c_Phase 7) then
                  k (A.add .i64 c_At 1)
                else
                  k 0)
noncomputable def impl_CommitLeft (A : PM.Prims) : impl_CommitLeft_T := impl_CommitLeft_f A (impl_CommitOk A)
noncomputable def impl_CommitLeft_L (A : PM.Prims) (c_62 : impl_CommitOk_T) (n : Nat) : PM.Lam := fun cur σ K =>
  match cur, σ, K with
  | _, _, _ => none
noncomputable def impl_CommitLeft_E (A : PM.Prims) (c_62 : impl_CommitOk_T) : PM.Env := ⟨[(62, ⟨[], impl_CommitOk_w c_62, none⟩)], [], [], [(0, [1]), (1, [1, 7]), (2, [2]), (3, [1, 3, 4]), (4, [1, 3, 4, 15]), (5, [1, 3, 4, 15, 16]), (6, [2]), (7, [1, 3, 4, 15, 28]), (8, [2]), (9, [1, 3, 4, 15, 35]), (10, [2]), (11, [1, 3, 15, 44]), (12, [2]), (13, [1, 3, 15, 51]), (14, [2]), (15, [1, 57]), (16, [2]), (17, [2])], impl_CommitLeft_L A c_62 A.fuel⟩
theorem impl_CommitLeft_ok (A : PM.Prims) (c_62 : impl_CommitOk_T) (c_Who : Int) (c_Rv : Int) (c_Phase : Int) (c_At : Int) (c_Wv : Int) (c_Puts : List (List Int)) (c_Reads : List Int) (k : PM.V → PM.R) : PM.pfun A cx [] (impl_CommitLeft_E A c_62) Go.Proofs.Try.f65 [.agg [.int .i64 c_Who, .int .i64 c_Rv, .int .i64 c_Phase, .int .i64 c_At, .int .i64 c_Wv, .arr (.vecs 135 2 c_Puts), .arr (.ints 3 .i64 c_Reads)]] k = impl_CommitLeft_f A c_62 c_Who c_Rv c_Phase c_At c_Wv c_Puts c_Reads (fun r0 => k (.int .i64 r0)) := by kernel_rfl

theorem impl_CommitLeft_fn : PM.FnIs Try.prog 65 Try.f65 := .of Try.func65 (by kernel_rfl) (by kernel_rfl)
theorem impl_CommitLeft_g : PM.GOk Try.prog cx 65 ⟨[], impl_CommitLeft_w (impl_CommitLeft PM.std), none⟩ := by
  refine ⟨impl_CommitLeft_fn.enter, fun _ ds k r h => ?_, fun hm => absurd rfl hm, fun _ e => (by cases e)⟩
  change impl_CommitLeft_w (impl_CommitLeft PM.std) ds k = some r at h
  unfold impl_CommitLeft_w at h
  split at h
  · exact PM.pfun_ok (E := impl_CommitLeft_E PM.std (impl_CommitOk PM.std)) (L := fun n => impl_CommitLeft_L PM.std (impl_CommitOk PM.std) n) (N := PM.std.fuel) cx_ok (.cons impl_CommitOk_g .nil) mixed .nil impl_CommitLeft_fn (by kernel_rfl) ⟨rfl, fun _ _ _ => rfl, fun n cur σ K r h => by cases h⟩
      ((impl_CommitLeft_ok PM.std (impl_CommitOk PM.std) _ _ _ _ _ _ _ k).trans h)
  · cases h

abbrev laws_FnExactCommitLeft_T := (Int) → (Int) → (Int) → (Int) → (Int) → (List (List Int)) → (List Int) → ((Bool) → PM.R) → PM.R
noncomputable def laws_FnExactCommitLeft_w (c : laws_FnExactCommitLeft_T) (ds : List PM.V) (k : PM.V → PM.R) : PM.R :=
  match ds with
  | [.agg [.int .i64 aC_Who, .int .i64 aC_Rv, .int .i64 aC_Phase, .int .i64 aC_At, .int .i64 aC_Wv, .arr (.vecs 139 2 aC_Puts), .arr (.ints 3 .i64 aC_Reads)]] => c aC_Who aC_Rv aC_Phase aC_At aC_Wv aC_Puts aC_Reads (fun r0 => k (.bool r0))
  | _ => none
noncomputable def laws_FnExactCommitLeft_f (A : PM.Prims) (c_59 : laws_szCommit_T) (c_61 : laws_toCommit_T) (c_63 : laws_eqCommit_T) (c_64 : spec_CommitLeft_T) (c_65 : impl_CommitLeft_T) (aC_Who : Int) (aC_Rv : Int) (aC_Phase : Int) (aC_At : Int) (aC_Wv : Int) (aC_Puts : List (List Int)) (aC_Reads : List Int) (k : (Bool) → PM.R) : PM.R :=
  c_59 aC_Who aC_Rv aC_Phase aC_At aC_Wv aC_Puts aC_Reads 1048576 (fun r1 =>
    bif (A.lt r1 0) then
      k true
    else
      c_61 aC_Who aC_Rv aC_Phase aC_At aC_Wv aC_Puts aC_Reads (fun r2 r3 r4 r5 r6 r7 r8 =>
        c_64 r2 r3 r4 r5 r6 r7 r8 (fun r9 =>
          c_61 aC_Who aC_Rv aC_Phase aC_At aC_Wv aC_Puts aC_Reads (fun r10 r11 r12 r13 r14 r15 r16 =>
            c_65 r10 r11 r12 r13 r14 r15 r16 (fun r17 =>
              bif (A.not (A.eq r17 r9)) then
                k false
              else
                c_61 aC_Who aC_Rv aC_Phase aC_At aC_Wv aC_Puts aC_Reads (fun r18 r19 r20 r21 r22 r23 r24 =>
                  c_63 r10 r11 r12 r13 r14 r15 r16 r18 r19 r20 r21 r22 r23 r24 (fun r25 =>
                    bif (A.not r25) then
                      k false
                    else
                      k true)))))))
noncomputable def laws_FnExactCommitLeft (A : PM.Prims) : laws_FnExactCommitLeft_T := laws_FnExactCommitLeft_f A (laws_szCommit A) (laws_toCommit A) (laws_eqCommit A) (spec_CommitLeft A) (impl_CommitLeft A)
noncomputable def laws_FnExactCommitLeft_L (A : PM.Prims) (c_59 : laws_szCommit_T) (c_61 : laws_toCommit_T) (c_63 : laws_eqCommit_T) (c_64 : spec_CommitLeft_T) (c_65 : impl_CommitLeft_T) (n : Nat) : PM.Lam := fun cur σ K =>
  match cur, σ, K with
  | _, _, _ => none
noncomputable def laws_FnExactCommitLeft_E (A : PM.Prims) (c_59 : laws_szCommit_T) (c_61 : laws_toCommit_T) (c_63 : laws_eqCommit_T) (c_64 : spec_CommitLeft_T) (c_65 : impl_CommitLeft_T) : PM.Env := ⟨[(59, ⟨[], laws_szCommit_w c_59, none⟩), (61, ⟨[], laws_toCommit_w c_61, none⟩), (63, ⟨[], laws_eqCommit_w c_63, none⟩), (64, ⟨[], spec_CommitLeft_w c_64, none⟩), (65, ⟨[], impl_CommitLeft_w c_65, none⟩)], [], [], [(0, [1]), (1, [1, 3]), (2, [1, 3]), (3, [1, 11]), (4, [2]), (5, [1, 4]), (6, [1, 4, 5]), (7, [1, 4, 5, 6]), (8, [1, 5, 21]), (9, [2]), (10, [26]), (11, [2]), (12, [2])], laws_FnExactCommitLeft_L A c_59 c_61 c_63 c_64 c_65 A.fuel⟩
theorem laws_FnExactCommitLeft_ok (A : PM.Prims) (c_59 : laws_szCommit_T) (c_61 : laws_toCommit_T) (c_63 : laws_eqCommit_T) (c_64 : spec_CommitLeft_T) (c_65 : impl_CommitLeft_T) (aC_Who : Int) (aC_Rv : Int) (aC_Phase : Int) (aC_At : Int) (aC_Wv : Int) (aC_Puts : List (List Int)) (aC_Reads : List Int) (k : PM.V → PM.R) : PM.pfun A cx [] (laws_FnExactCommitLeft_E A c_59 c_61 c_63 c_64 c_65) Go.Proofs.Try.f15 [.agg [.int .i64 aC_Who, .int .i64 aC_Rv, .int .i64 aC_Phase, .int .i64 aC_At, .int .i64 aC_Wv, .arr (.vecs 139 2 aC_Puts), .arr (.ints 3 .i64 aC_Reads)]] k = laws_FnExactCommitLeft_f A c_59 c_61 c_63 c_64 c_65 aC_Who aC_Rv aC_Phase aC_At aC_Wv aC_Puts aC_Reads (fun r0 => k (.bool r0)) := by kernel_rfl

theorem laws_FnExactCommitLeft_fn : PM.FnIs Try.prog 15 Try.f15 := .of Try.func15 (by kernel_rfl) (by kernel_rfl)
theorem laws_FnExactCommitLeft_g : PM.GOk Try.prog cx 15 ⟨[], laws_FnExactCommitLeft_w (laws_FnExactCommitLeft PM.std), none⟩ := by
  refine ⟨laws_FnExactCommitLeft_fn.enter, fun _ ds k r h => ?_, fun hm => absurd rfl hm, fun _ e => (by cases e)⟩
  change laws_FnExactCommitLeft_w (laws_FnExactCommitLeft PM.std) ds k = some r at h
  unfold laws_FnExactCommitLeft_w at h
  split at h
  · exact PM.pfun_ok (E := laws_FnExactCommitLeft_E PM.std (laws_szCommit PM.std) (laws_toCommit PM.std) (laws_eqCommit PM.std) (spec_CommitLeft PM.std) (impl_CommitLeft PM.std)) (L := fun n => laws_FnExactCommitLeft_L PM.std (laws_szCommit PM.std) (laws_toCommit PM.std) (laws_eqCommit PM.std) (spec_CommitLeft PM.std) (impl_CommitLeft PM.std) n) (N := PM.std.fuel) cx_ok (.cons laws_szCommit_g (.cons laws_toCommit_g (.cons laws_eqCommit_g (.cons spec_CommitLeft_g (.cons impl_CommitLeft_g .nil))))) mixed .nil laws_FnExactCommitLeft_fn (by kernel_rfl) ⟨rfl, fun _ _ _ => rfl, fun n cur σ K r h => by cases h⟩
      ((laws_FnExactCommitLeft_ok PM.std (laws_szCommit PM.std) (laws_toCommit PM.std) (laws_eqCommit PM.std) (spec_CommitLeft PM.std) (impl_CommitLeft PM.std) _ _ _ _ _ _ _ k).trans h)
  · cases h

abbrev spec_Last_T := (List (List Int)) → (Int) → ((Int) → (Bool) → PM.R) → PM.R
noncomputable def spec_Last_w (c : spec_Last_T) (ds : List PM.V) (k : PM.V → PM.R) : PM.R :=
  match ds with
  | [.arr (.vecs 135 2 l), .int .i64 cell] => c l cell (fun r0 r1 => k (.tup [.int .i64 r0, .bool r1]))
  | _ => none
noncomputable def spec_Last_l0 (A : PM.Prims) (c_82 : spec_RowsOk_T) : Nat → (List (List Int)) → (Int) → (Int) → ((Int) → (Bool) → PM.R) → (Unit → PM.R) → PM.R
  | 0, _, _, _, _, _ => none
  | n + 1, l2, cell3, i4, kret_0, kx0_0 =>
    bif (A.le 0 i4) then
      bif (A.inb i4 (A.vlen l2)) then
        bif (A.eq (A.vget l2 i4 0) cell3) then
          bif (A.inb i4 (A.vlen l2)) then
            kret_0 (A.vget l2 i4 1) true
          else
            none
        else
          spec_Last_l0 A c_82 n l2 cell3 (A.sub .i64 i4 1) kret_0 kx0_0
      else
        none
    else
      kx0_0 ()
noncomputable def spec_Last_f (A : PM.Prims) (c_82 : spec_RowsOk_T) (l : List (List Int)) (cell : Int) (k : (Int) → (Bool) → PM.R) : PM.R :=
  c_82 l (fun r1 =>
    bif (A.not r1) then
      k 0 false
    else
      spec_Last_l0 A c_82 A.fuel l cell (A.sub .i64 (A.vlen l) 1) (fun t457 t568 =>
        k t457 t568) (fun _ =>
        k 0 false))
noncomputable def spec_Last (A : PM.Prims) : spec_Last_T := spec_Last_f A (spec_RowsOk A)
noncomputable def spec_Last_L (A : PM.Prims) (c_82 : spec_RowsOk_T) (n : Nat) : PM.Lam := fun cur σ K =>
  match cur, σ, K with
  | 0, ⟨[(0, .arr (.vecs 135 2 l2)), (1, .int .i64 cell3), (6, .int .i64 i4)], []⟩, K => spec_Last_l0 A c_82 n l2 cell3 i4 (fun t45 t56 => K .ret ⟨[(4, .int .i64 t45), (5, .bool t56)], []⟩) (fun _ => K (.exit 0) ⟨[], []⟩)
  | _, _, _ => none
noncomputable def spec_Last_E (A : PM.Prims) (c_82 : spec_RowsOk_T) : PM.Env := ⟨[(82, ⟨[], spec_RowsOk_w c_82, none⟩)], [], [(0, [0, 1, 6], [4, 5])], [(0, [0, 1]), (1, [0, 1, 9]), (2, [4, 5]), (3, [0, 1, 6]), (4, [0, 1, 6, 14]), (5, [0, 1, 6]), (6, [0, 1, 6, 23]), (7, [4, 5]), (8, [4, 5])], spec_Last_L A c_82 A.fuel⟩
theorem spec_Last_l0_ok (A : PM.Prims) (c_82 : spec_RowsOk_T) (n : Nat) (l2 : List (List Int)) (cell3 : Int) (i4 : Int) (K : Go.Exit → PM.S → PM.R) : spec_Last_L A c_82 (n + 1) 0 ⟨[(0, .arr (.vecs 135 2 l2)), (1, .int .i64 cell3), (6, .int .i64 i4)], []⟩ K = PM.roundF A cx (PM.runD A cx (spec_Last_E A c_82).inl (spec_Last_E A c_82).Γ 3) (spec_Last_E A c_82) (spec_Last_L A c_82 n) 0 Go.Proofs.Try.f83 ⟨[(0, .arr (.vecs 135 2 l2)), (1, .int .i64 cell3), (6, .int .i64 i4)], []⟩ K := by kernel_rfl
theorem spec_Last_ok (A : PM.Prims) (c_82 : spec_RowsOk_T) (l : List (List Int)) (cell : Int) (k : PM.V → PM.R) : PM.pfun A cx [] (spec_Last_E A c_82) Go.Proofs.Try.f83 [.arr (.vecs 135 2 l), .int .i64 cell] k = spec_Last_f A c_82 l cell (fun r0 r1 => k (.tup [.int .i64 r0, .bool r1])) := by kernel_rfl

theorem spec_Last_fn : PM.FnIs Try.prog 83 Try.f83 := .of Try.func83 (by kernel_rfl) (by kernel_rfl)
theorem spec_Last_g : PM.GOk Try.prog cx 83 ⟨[], spec_Last_w (spec_Last PM.std), none⟩ := by
  refine ⟨spec_Last_fn.enter, fun _ ds k r h => ?_, fun hm => absurd rfl hm, fun _ e => (by cases e)⟩
  change spec_Last_w (spec_Last PM.std) ds k = some r at h
  unfold spec_Last_w at h
  split at h
  · exact PM.pfun_ok (E := spec_Last_E PM.std (spec_RowsOk PM.std)) (L := fun n => spec_Last_L PM.std (spec_RowsOk PM.std) n) (N := PM.std.fuel) cx_ok (.cons spec_RowsOk_g .nil) mixed .nil spec_Last_fn (by kernel_rfl) ⟨rfl, fun cur σ K => by
      dsimp only [spec_Last_L]
      split <;> rfl, fun n cur σ K r h => by
      dsimp only [spec_Last_L] at h
      split at h
      · exact (spec_Last_l0_ok PM.std (spec_RowsOk PM.std) n _ _ _ K).symm.trans h
      · cases h⟩
      ((spec_Last_ok PM.std (spec_RowsOk PM.std) _ _ k).trans h)
  · cases h

abbrev spec_Net_T := (List (List Int)) → ((List (List Int)) → PM.R) → PM.R
noncomputable def spec_Net_w (c : spec_Net_T) (ds : List PM.V) (k : PM.V → PM.R) : PM.R :=
  match ds with
  | [.arr (.vecs 135 2 l)] => c l (fun r0 => k (.arr (.vecs 135 2 r0)))
  | _ => none
noncomputable def spec_Net_l0 (A : PM.Prims) (c_83 : spec_Last_T) : Nat → (List (List Int)) → (Int) → (List (List Int)) → ((List (List Int)) → PM.R) → PM.R
  | 0, _, _, _, _ => none
  | n + 1, l1, i2, o03, kx0_0 =>
    bif (A.lt i2 8) then
      c_83 l1 i2 (fun r4 r5 =>
        bif r5 then
          bif (A.room (A.vlen o03) (A.vlen [[i2, r4]])) then
            spec_Net_l0 A c_83 n l1 (A.add .i64 i2 1) (A.vapp o03 [[i2, r4]]) kx0_0
          else
            none
        else
          spec_Net_l0 A c_83 n l1 (A.add .i64 i2 1) o03 kx0_0)
    else
      kx0_0 o03
noncomputable def spec_Net_f (A : PM.Prims) (c_83 : spec_Last_T) (l : List (List Int)) (k : (List (List Int)) → PM.R) : PM.R :=
  spec_Net_l0 A c_83 A.fuel l 0 [] (fun o067 =>
    k o067)
noncomputable def spec_Net (A : PM.Prims) : spec_Net_T := spec_Net_f A (spec_Last A)
noncomputable def spec_Net_L (A : PM.Prims) (c_83 : spec_Last_T) (n : Nat) : PM.Lam := fun cur σ K =>
  match cur, σ, K with
  | 0, ⟨[(0, .arr (.vecs 135 2 l1)), (3, .sref 0), (4, .int .i64 i2)], [(0, .arr true (.vecs 135 2 o03))]⟩, K => spec_Net_l0 A c_83 n l1 i2 o03 (fun o06 => K (.exit 0) ⟨[(3, .sref 0)], [(0, .arr true (.vecs 135 2 o06))]⟩)
  | _, _, _ => none
noncomputable def spec_Net_E (A : PM.Prims) (c_83 : spec_Last_T) : PM.Env := ⟨[(83, ⟨[], spec_Last_w c_83, none⟩)], [], [(0, [0, 3, 4], [2, 3])], [(0, [0]), (1, [0, 3]), (2, [0, 3, 4]), (3, [0, 3, 4, 9]), (4, [0, 3, 4]), (5, [0, 3, 4, 5, 6]), (6, [0, 3, 4, 5, 18]), (7, [0, 3, 4]), (8, [2])], spec_Net_L A c_83 A.fuel⟩
theorem spec_Net_l0_ok (A : PM.Prims) (c_83 : spec_Last_T) (n : Nat) (l1 : List (List Int)) (i2 : Int) (o03 : List (List Int)) (K : Go.Exit → PM.S → PM.R) : spec_Net_L A c_83 (n + 1) 0 ⟨[(0, .arr (.vecs 135 2 l1)), (3, .sref 0), (4, .int .i64 i2)], [(0, .arr true (.vecs 135 2 o03))]⟩ K = PM.roundF A cx (PM.runD A cx (spec_Net_E A c_83).inl (spec_Net_E A c_83).Γ 3) (spec_Net_E A c_83) (spec_Net_L A c_83 n) 0 Go.Proofs.Try.f126 ⟨[(0, .arr (.vecs 135 2 l1)), (3, .sref 0), (4, .int .i64 i2)], [(0, .arr true (.vecs 135 2 o03))]⟩ K := by kernel_rfl
theorem spec_Net_ok (A : PM.Prims) (c_83 : spec_Last_T) (l : List (List Int)) (k : PM.V → PM.R) : PM.pfun A cx [] (spec_Net_E A c_83) Go.Proofs.Try.f126 [.arr (.vecs 135 2 l)] k = spec_Net_f A c_83 l (fun r0 => k (.arr (.vecs 135 2 r0))) := by kernel_rfl

theorem spec_Net_fn : PM.FnIs Try.prog 126 Try.f126 := .of Try.func126 (by kernel_rfl) (by kernel_rfl)
theorem spec_Net_g : PM.GOk Try.prog cx 126 ⟨[], spec_Net_w (spec_Net PM.std), none⟩ := by
  refine ⟨spec_Net_fn.enter, fun _ ds k r h => ?_, fun hm => absurd rfl hm, fun _ e => (by cases e)⟩
  change spec_Net_w (spec_Net PM.std) ds k = some r at h
  unfold spec_Net_w at h
  split at h
  · exact PM.pfun_ok (E := spec_Net_E PM.std (spec_Last PM.std)) (L := fun n => spec_Net_L PM.std (spec_Last PM.std) n) (N := PM.std.fuel) cx_ok (.cons spec_Last_g .nil) mixed .nil spec_Net_fn (by kernel_rfl) ⟨rfl, fun cur σ K => by
      dsimp only [spec_Net_L]
      split <;> rfl, fun n cur σ K r h => by
      dsimp only [spec_Net_L] at h
      split at h
      · exact (spec_Net_l0_ok PM.std (spec_Last PM.std) n _ _ _ K).symm.trans h
      · cases h⟩
      ((spec_Net_ok PM.std (spec_Last PM.std) _ k).trans h)
  · cases h

abbrev spec_CellsOf_T := (List (List Int)) → ((List Int) → PM.R) → PM.R
noncomputable def spec_CellsOf_w (c : spec_CellsOf_T) (ds : List PM.V) (k : PM.V → PM.R) : PM.R :=
  match ds with
  | [.arr (.vecs 135 2 l)] => c l (fun r0 => k (.arr (.ints 3 .i64 r0)))
  | _ => none
noncomputable def spec_CellsOf_l0 (A : PM.Prims) (c_126 : spec_Net_T) : Nat → (Int) → (List Int) → (List (List Int)) → ((List Int) → PM.R) → PM.R
  | 0, _, _, _, _ => none
  | n + 1, i2, o03, o14, kx0_0 =>
    bif (A.lt i2 (A.vlen o14)) then
      bif (A.inb i2 (A.vlen o14)) then
        bif (A.room (A.ilen o03) (A.ilen [(A.vget o14 i2 0)])) then
          spec_CellsOf_l0 A c_126 n (A.add .i64 i2 1) (A.iapp o03 [(A.vget o14 i2 0)]) o14 kx0_0
        else
          none
      else
        none
    else
      kx0_0 o03
noncomputable def spec_CellsOf_f (A : PM.Prims) (c_126 : spec_Net_T) (l : List (List Int)) (k : (List Int) → PM.R) : PM.R :=
  c_126 l (fun r1 =>
    spec_CellsOf_l0 A c_126 A.fuel 0 [] r1 (fun o056 =>
      k o056))
noncomputable def spec_CellsOf (A : PM.Prims) : spec_CellsOf_T := spec_CellsOf_f A (spec_Net A)
noncomputable def spec_CellsOf_L (A : PM.Prims) (c_126 : spec_Net_T) (n : Nat) : PM.Lam := fun cur σ K =>
  match cur, σ, K with
  | 0, ⟨[(3, .sref 0), (4, .sref 1), (5, .int .i64 i2)], [(0, .arr true (.ints 3 .i64 o03)), (1, .arr true (.vecs 135 2 o14))]⟩, K => spec_CellsOf_l0 A c_126 n i2 o03 o14 (fun o05 => K (.exit 0) ⟨[(3, .sref 0)], [(0, .arr true (.ints 3 .i64 o05))]⟩)
  | _, _, _ => none
noncomputable def spec_CellsOf_E (A : PM.Prims) (c_126 : spec_Net_T) : PM.Env := ⟨[(126, ⟨[], spec_Net_w c_126, none⟩)], [], [(0, [3, 4, 5], [2, 3])], [(0, [0]), (1, [0, 3]), (2, [3, 4]), (3, [3, 4, 5]), (4, [3, 4, 5, 12]), (5, [3, 4, 5]), (6, [3, 4, 5]), (7, [2])], spec_CellsOf_L A c_126 A.fuel⟩
theorem spec_CellsOf_l0_ok (A : PM.Prims) (c_126 : spec_Net_T) (n : Nat) (i2 : Int) (o03 : List Int) (o14 : List (List Int)) (K : Go.Exit → PM.S → PM.R) : spec_CellsOf_L A c_126 (n + 1) 0 ⟨[(3, .sref 0), (4, .sref 1), (5, .int .i64 i2)], [(0, .arr true (.ints 3 .i64 o03)), (1, .arr true (.vecs 135 2 o14))]⟩ K = PM.roundF A cx (PM.runD A cx (spec_CellsOf_E A c_126).inl (spec_CellsOf_E A c_126).Γ 3) (spec_CellsOf_E A c_126) (spec_CellsOf_L A c_126 n) 0 Go.Proofs.Try.f127 ⟨[(3, .sref 0), (4, .sref 1), (5, .int .i64 i2)], [(0, .arr true (.ints 3 .i64 o03)), (1, .arr true (.vecs 135 2 o14))]⟩ K := by kernel_rfl
theorem spec_CellsOf_ok (A : PM.Prims) (c_126 : spec_Net_T) (l : List (List Int)) (k : PM.V → PM.R) : PM.pfun A cx [] (spec_CellsOf_E A c_126) Go.Proofs.Try.f127 [.arr (.vecs 135 2 l)] k = spec_CellsOf_f A c_126 l (fun r0 => k (.arr (.ints 3 .i64 r0))) := by kernel_rfl

theorem spec_CellsOf_fn : PM.FnIs Try.prog 127 Try.f127 := .of Try.func127 (by kernel_rfl) (by kernel_rfl)
theorem spec_CellsOf_g : PM.GOk Try.prog cx 127 ⟨[], spec_CellsOf_w (spec_CellsOf PM.std), none⟩ := by
  refine ⟨spec_CellsOf_fn.enter, fun _ ds k r h => ?_, fun hm => absurd rfl hm, fun _ e => (by cases e)⟩
  change spec_CellsOf_w (spec_CellsOf PM.std) ds k = some r at h
  unfold spec_CellsOf_w at h
  split at h
  · exact PM.pfun_ok (E := spec_CellsOf_E PM.std (spec_Net PM.std)) (L := fun n => spec_CellsOf_L PM.std (spec_Net PM.std) n) (N := PM.std.fuel) cx_ok (.cons spec_Net_g .nil) mixed .nil spec_CellsOf_fn (by kernel_rfl) ⟨rfl, fun cur σ K => by
      dsimp only [spec_CellsOf_L]
      split <;> rfl, fun n cur σ K r h => by
      dsimp only [spec_CellsOf_L] at h
      split at h
      · exact (spec_CellsOf_l0_ok PM.std (spec_Net PM.std) n _ _ _ K).symm.trans h
      · cases h⟩
      ((spec_CellsOf_ok PM.std (spec_Net PM.std) _ k).trans h)
  · cases h

abbrev spec_CommitNew_T := (Int) → (Int) → (List (List Int)) → (List (List Int)) → ((Int) → (Int) → (Int) → (Int) → (Int) → (List (List Int)) → (List Int) → (Bool) → PM.R) → PM.R
noncomputable def spec_CommitNew_w (c : spec_CommitNew_T) (ds : List PM.V) (k : PM.V → PM.R) : PM.R :=
  match ds with
  | [.int .i64 who, .int .i64 rv, .arr (.vecs 135 2 puts), .arr (.vecs 135 2 reads)] => c who rv puts reads (fun r0_Who r0_Rv r0_Phase r0_At r0_Wv r0_Puts r0_Reads r1 => k (.tup [.agg [.int .i64 r0_Who, .int .i64 r0_Rv, .int .i64 r0_Phase, .int .i64 r0_At, .int .i64 r0_Wv, .arr (.vecs 135 2 r0_Puts), .arr (.ints 3 .i64 r0_Reads)], .bool r1]))
  | _ => none
noncomputable def spec_CommitNew_f (A : PM.Prims) (c_94 : spec_l1In_T) (c_82 : spec_RowsOk_T) (c_126 : spec_Net_T) (c_127 : spec_CellsOf_T) (who : Int) (rv : Int) (puts : List (List Int)) (reads : List (List Int)) (k : (Int) → (Int) → (Int) → (Int) → (Int) → (List (List Int)) → (List Int) → (Bool) → PM.R) : PM.R :=
  c_94 who 1 99 (fun r1 =>
    bif (A.not r1) then
      k 0 0 0 0 0 [] [] false
    else
      c_94 rv 0 1000000 (fun r2 =>
        bif (A.not r2) then
          k 0 0 0 0 0 [] [] false
        else
          c_82 puts (fun r3 =>
            bif (A.not r3) then
              k 0 0 0 0 0 [] [] false
            else
              c_82 reads (fun r4 =>
                bif (A.not r4) then
                  k 0 0 0 0 0 [] [] false
                else
                  c_126 puts (fun r5 =>
                    c_127 reads (fun r6 =>
                      bif (A.eq (A.vlen r5) 0) then
                        k who rv 2 0 0 r5 r6 true
                      else
                        k who rv 1 0 0 r5 r6 true))))))
noncomputable def spec_CommitNew (A : PM.Prims) : spec_CommitNew_T := spec_CommitNew_f A (spec_l1In A) (spec_RowsOk A) (spec_Net A) (spec_CellsOf A)
noncomputable def spec_CommitNew_L (A : PM.Prims) (c_94 : spec_l1In_T) (c_82 : spec_RowsOk_T) (c_126 : spec_Net_T) (c_127 : spec_CellsOf_T) (n : Nat) : PM.Lam := fun cur σ K =>
  match cur, σ, K with
  | _, _, _ => none
noncomputable def spec_CommitNew_E (A : PM.Prims) (c_94 : spec_l1In_T) (c_82 : spec_RowsOk_T) (c_126 : spec_Net_T) (c_127 : spec_CellsOf_T) : PM.Env := ⟨[(94, ⟨[], spec_l1In_w c_94, none⟩), (82, ⟨[], spec_RowsOk_w c_82, none⟩), (126, ⟨[], spec_Net_w c_126, none⟩), (127, ⟨[], spec_CellsOf_w c_127, none⟩)], [], [], [(0, [0, 1, 2, 3, 8]), (1, [0, 1, 2, 3, 8, 28]), (2, [8, 9]), (3, [8, 10]), (4, [8, 10, 40]), (5, [8, 10]), (6, [8, 9])], spec_CommitNew_L A c_94 c_82 c_126 c_127 A.fuel⟩
theorem spec_CommitNew_ok (A : PM.Prims) (c_94 : spec_l1In_T) (c_82 : spec_RowsOk_T) (c_126 : spec_Net_T) (c_127 : spec_CellsOf_T) (who : Int) (rv : Int) (puts : List (List Int)) (reads : List (List Int)) (k : PM.V → PM.R) : PM.pfun A cx [] (spec_CommitNew_E A c_94 c_82 c_126 c_127) Go.Proofs.Try.f67 [.int .i64 who, .int .i64 rv, .arr (.vecs 135 2 puts), .arr (.vecs 135 2 reads)] k = spec_CommitNew_f A c_94 c_82 c_126 c_127 who rv puts reads (fun r0_Who r0_Rv r0_Phase r0_At r0_Wv r0_Puts r0_Reads r1 => k (.tup [.agg [.int .i64 r0_Who, .int .i64 r0_Rv, .int .i64 r0_Phase, .int .i64 r0_At, .int .i64 r0_Wv, .arr (.vecs 135 2 r0_Puts), .arr (.ints 3 .i64 r0_Reads)], .bool r1])) := by kernel_rfl

theorem spec_CommitNew_fn : PM.FnIs Try.prog 67 Try.f67 := .of Try.func67 (by kernel_rfl) (by kernel_rfl)
theorem spec_CommitNew_g : PM.GOk Try.prog cx 67 ⟨[], spec_CommitNew_w (spec_CommitNew PM.std), none⟩ := by
  refine ⟨spec_CommitNew_fn.enter, fun _ ds k r h => ?_, fun hm => absurd rfl hm, fun _ e => (by cases e)⟩
  change spec_CommitNew_w (spec_CommitNew PM.std) ds k = some r at h
  unfold spec_CommitNew_w at h
  split at h
  · exact PM.pfun_ok (E := spec_CommitNew_E PM.std (spec_l1In PM.std) (spec_RowsOk PM.std) (spec_Net PM.std) (spec_CellsOf PM.std)) (L := fun n => spec_CommitNew_L PM.std (spec_l1In PM.std) (spec_RowsOk PM.std) (spec_Net PM.std) (spec_CellsOf PM.std) n) (N := PM.std.fuel) cx_ok (.cons spec_l1In_g (.cons spec_RowsOk_g (.cons spec_Net_g (.cons spec_CellsOf_g .nil)))) mixed .nil spec_CommitNew_fn (by kernel_rfl) ⟨rfl, fun _ _ _ => rfl, fun n cur σ K r h => by cases h⟩
      ((spec_CommitNew_ok PM.std (spec_l1In PM.std) (spec_RowsOk PM.std) (spec_Net PM.std) (spec_CellsOf PM.std) _ _ _ _ k).trans h)
  · cases h

abbrev impl_Last_T := (List (List Int)) → (Int) → ((Int) → (Bool) → PM.R) → PM.R
noncomputable def impl_Last_w (c : impl_Last_T) (ds : List PM.V) (k : PM.V → PM.R) : PM.R :=
  match ds with
  | [.arr (.vecs 135 2 l), .int .i64 cell] => c l cell (fun r0 r1 => k (.tup [.int .i64 r0, .bool r1]))
  | _ => none
noncomputable def impl_Last_l0 (A : PM.Prims) (c_124 : impl_RowsOk_T) : Nat → (List (List Int)) → (Int) → (Int) → ((Int) → (Bool) → PM.R) → (Unit → PM.R) → PM.R
  | 0, _, _, _, _, _ => none
  | n + 1, l2, cell3, i4, kret_0, kx0_0 =>
    bif (A.le 0 i4) then
      bif (A.inb i4 (A.vlen l2)) then
        bif (A.eq (A.vget l2 i4 0) cell3) then
          bif (A.inb i4 (A.vlen l2)) then
            kret_0 (A.vget l2 i4 1) true
          else
            none
        else
          impl_Last_l0 A c_124 n l2 cell3 (A.sub .i64 i4 1) kret_0 kx0_0
      else
        none
    else
      kx0_0 ()
noncomputable def impl_Last_f (A : PM.Prims) (c_124 : impl_RowsOk_T) (l : List (List Int)) (cell : Int) (k : (Int) → (Bool) → PM.R) : PM.R :=
  c_124 l (fun r1 =>
    bif (A.not r1) then
      k 0 false
    else
      impl_Last_l0 A c_124 A.fuel l cell (A.sub .i64 (A.vlen l) 1) (fun t457 t568 =>
        k t457 t568) (fun _ =>
        k 0 false))
noncomputable def impl_Last (A : PM.Prims) : impl_Last_T := impl_Last_f A (impl_RowsOk A)
noncomputable def impl_Last_L (A : PM.Prims) (c_124 : impl_RowsOk_T) (n : Nat) : PM.Lam := fun cur σ K =>
  match cur, σ, K with
  | 0, ⟨[(0, .arr (.vecs 135 2 l2)), (1, .int .i64 cell3), (6, .int .i64 i4)], []⟩, K => impl_Last_l0 A c_124 n l2 cell3 i4 (fun t45 t56 => K .ret ⟨[(4, .int .i64 t45), (5, .bool t56)], []⟩) (fun _ => K (.exit 0) ⟨[], []⟩)
  | _, _, _ => none
noncomputable def impl_Last_E (A : PM.Prims) (c_124 : impl_RowsOk_T) : PM.Env := ⟨[(124, ⟨[], impl_RowsOk_w c_124, none⟩)], [], [(0, [0, 1, 6], [4, 5])], [(0, [0, 1]), (1, [0, 1, 9]), (2, [4, 5]), (3, [0, 1, 6]), (4, [0, 1, 6, 14]), (5, [0, 1, 6]), (6, [0, 1, 6, 23]), (7, [4, 5]), (8, [4, 5])], impl_Last_L A c_124 A.fuel⟩
theorem impl_Last_l0_ok (A : PM.Prims) (c_124 : impl_RowsOk_T) (n : Nat) (l2 : List (List Int)) (cell3 : Int) (i4 : Int) (K : Go.Exit → PM.S → PM.R) : impl_Last_L A c_124 (n + 1) 0 ⟨[(0, .arr (.vecs 135 2 l2)), (1, .int .i64 cell3), (6, .int .i64 i4)], []⟩ K = PM.roundF A cx (PM.runD A cx (impl_Last_E A c_124).inl (impl_Last_E A c_124).Γ 3) (impl_Last_E A c_124) (impl_Last_L A c_124 n) 0 Go.Proofs.Try.f91 ⟨[(0, .arr (.vecs 135 2 l2)), (1, .int .i64 cell3), (6, .int .i64 i4)], []⟩ K := by kernel_rfl
theorem impl_Last_ok (A : PM.Prims) (c_124 : impl_RowsOk_T) (l : List (List Int)) (cell : Int) (k : PM.V → PM.R) : PM.pfun A cx [] (impl_Last_E A c_124) Go.Proofs.Try.f91 [.arr (.vecs 135 2 l), .int .i64 cell] k = impl_Last_f A c_124 l cell (fun r0 r1 => k (.tup [.int .i64 r0, .bool r1])) := by kernel_rfl

theorem impl_Last_fn : PM.FnIs Try.prog 91 Try.f91 := .of Try.func91 (by kernel_rfl) (by kernel_rfl)
theorem impl_Last_g : PM.GOk Try.prog cx 91 ⟨[], impl_Last_w (impl_Last PM.std), none⟩ := by
  refine ⟨impl_Last_fn.enter, fun _ ds k r h => ?_, fun hm => absurd rfl hm, fun _ e => (by cases e)⟩
  change impl_Last_w (impl_Last PM.std) ds k = some r at h
  unfold impl_Last_w at h
  split at h
  · exact PM.pfun_ok (E := impl_Last_E PM.std (impl_RowsOk PM.std)) (L := fun n => impl_Last_L PM.std (impl_RowsOk PM.std) n) (N := PM.std.fuel) cx_ok (.cons impl_RowsOk_g .nil) mixed .nil impl_Last_fn (by kernel_rfl) ⟨rfl, fun cur σ K => by
      dsimp only [impl_Last_L]
      split <;> rfl, fun n cur σ K r h => by
      dsimp only [impl_Last_L] at h
      split at h
      · exact (impl_Last_l0_ok PM.std (impl_RowsOk PM.std) n _ _ _ K).symm.trans h
      · cases h⟩
      ((impl_Last_ok PM.std (impl_RowsOk PM.std) _ _ k).trans h)
  · cases h

abbrev impl_Net_T := (List (List Int)) → ((List (List Int)) → PM.R) → PM.R
noncomputable def impl_Net_w (c : impl_Net_T) (ds : List PM.V) (k : PM.V → PM.R) : PM.R :=
  match ds with
  | [.arr (.vecs 135 2 l)] => c l (fun r0 => k (.arr (.vecs 135 2 r0)))
  | _ => none
noncomputable def impl_Net_l0 (A : PM.Prims) (c_124 : impl_RowsOk_T) (c_91 : impl_Last_T) : Nat → (List (List Int)) → (Int) → (List (List Int)) → ((List (List Int)) → PM.R) → PM.R
  | 0, _, _, _, _ => none
  | n + 1, l2, t113, o04, kx0_0 =>
    bif (A.lt t113 8) then
      c_91 l2 t113 (fun r5 r6 =>
        bif r6 then
          bif (A.room (A.vlen o04) (A.vlen [[t113, r5]])) then
            impl_Net_l0 A c_124 c_91 n l2 (A.add .i64 t113 1) (A.vapp o04 [[t113, r5]]) kx0_0
          else
            none
        else
          impl_Net_l0 A c_124 c_91 n l2 (A.add .i64 t113 1) o04 kx0_0)
    else
      kx0_0 o04
noncomputable def impl_Net_f (A : PM.Prims) (c_124 : impl_RowsOk_T) (c_91 : impl_Last_T) (l : List (List Int)) (k : (List (List Int)) → PM.R) : PM.R :=
  c_124 l (fun r1 =>
    bif (A.not r1) then
      k []
    else
      impl_Net_l0 A c_124 c_91 A.fuel l 0 [] (fun o078 =>
        k o078))
noncomputable def impl_Net (A : PM.Prims) : impl_Net_T := impl_Net_f A (impl_RowsOk A) (impl_Last A)
noncomputable def impl_Net_L (A : PM.Prims) (c_124 : impl_RowsOk_T) (c_91 : impl_Last_T) (n : Nat) : PM.Lam := fun cur σ K =>
  match cur, σ, K with
  | 0, ⟨[(0, .arr (.vecs 135 2 l2)), (3, .sref 0), (11, .int .i64 t113)], [(0, .arr true (.vecs 135 2 o04))]⟩, K => impl_Net_l0 A c_124 c_91 n l2 t113 o04 (fun o07 => K (.exit 0) ⟨[(3, .sref 0)], [(0, .arr true (.vecs 135 2 o07))]⟩)
  | _, _, _ => none
noncomputable def impl_Net_E (A : PM.Prims) (c_124 : impl_RowsOk_T) (c_91 : impl_Last_T) : PM.Env := ⟨[(124, ⟨[], impl_RowsOk_w c_124, none⟩), (91, ⟨[], impl_Last_w c_91, none⟩)], [], [(0, [0, 3, 11], [2, 3])], [(0, [0]), (1, [0, 9]), (2, [2]), (3, [0, 3]), (4, [0, 3, 11]), (5, [0, 3, 11, 12]), (6, [0, 3, 4, 11]), (7, [0, 3, 4, 5, 6, 11]), (8, [0, 3, 4, 5, 11, 20]), (9, [0, 3, 11]), (10, [0, 3, 11]), (11, [2])], impl_Net_L A c_124 c_91 A.fuel⟩
theorem impl_Net_l0_ok (A : PM.Prims) (c_124 : impl_RowsOk_T) (c_91 : impl_Last_T) (n : Nat) (l2 : List (List Int)) (t113 : Int) (o04 : List (List Int)) (K : Go.Exit → PM.S → PM.R) : impl_Net_L A c_124 c_91 (n + 1) 0 ⟨[(0, .arr (.vecs 135 2 l2)), (3, .sref 0), (11, .int .i64 t113)], [(0, .arr true (.vecs 135 2 o04))]⟩ K = PM.roundF A cx (PM.runD A cx (impl_Net_E A c_124 c_91).inl (impl_Net_E A c_124 c_91).Γ 3) (impl_Net_E A c_124 c_91) (impl_Net_L A c_124 c_91 n) 0 Go.Proofs.Try.f87 ⟨[(0, .arr (.vecs 135 2 l2)), (3, .sref 0), (11, .int .i64 t113)], [(0, .arr true (.vecs 135 2 o04))]⟩ K := by kernel_rfl
theorem impl_Net_ok (A : PM.Prims) (c_124 : impl_RowsOk_T) (c_91 : impl_Last_T) (l : List (List Int)) (k : PM.V → PM.R) : PM.pfun A cx [] (impl_Net_E A c_124 c_91) Go.Proofs.Try.f87 [.arr (.vecs 135 2 l)] k = impl_Net_f A c_124 c_91 l (fun r0 => k (.arr (.vecs 135 2 r0))) := by kernel_rfl

theorem impl_Net_fn : PM.FnIs Try.prog 87 Try.f87 := .of Try.func87 (by kernel_rfl) (by kernel_rfl)
theorem impl_Net_g : PM.GOk Try.prog cx 87 ⟨[], impl_Net_w (impl_Net PM.std), none⟩ := by
  refine ⟨impl_Net_fn.enter, fun _ ds k r h => ?_, fun hm => absurd rfl hm, fun _ e => (by cases e)⟩
  change impl_Net_w (impl_Net PM.std) ds k = some r at h
  unfold impl_Net_w at h
  split at h
  · exact PM.pfun_ok (E := impl_Net_E PM.std (impl_RowsOk PM.std) (impl_Last PM.std)) (L := fun n => impl_Net_L PM.std (impl_RowsOk PM.std) (impl_Last PM.std) n) (N := PM.std.fuel) cx_ok (.cons impl_RowsOk_g (.cons impl_Last_g .nil)) mixed .nil impl_Net_fn (by kernel_rfl) ⟨rfl, fun cur σ K => by
      dsimp only [impl_Net_L]
      split <;> rfl, fun n cur σ K r h => by
      dsimp only [impl_Net_L] at h
      split at h
      · exact (impl_Net_l0_ok PM.std (impl_RowsOk PM.std) (impl_Last PM.std) n _ _ _ K).symm.trans h
      · cases h⟩
      ((impl_Net_ok PM.std (impl_RowsOk PM.std) (impl_Last PM.std) _ k).trans h)
  · cases h

abbrev impl_CellsOf_T := (List (List Int)) → ((List Int) → PM.R) → PM.R
noncomputable def impl_CellsOf_w (c : impl_CellsOf_T) (ds : List PM.V) (k : PM.V → PM.R) : PM.R :=
  match ds with
  | [.arr (.vecs 135 2 l)] => c l (fun r0 => k (.arr (.ints 3 .i64 r0)))
  | _ => none
noncomputable def impl_CellsOf_l0 (A : PM.Prims) (c_87 : impl_Net_T) : Nat → (Int) → (Int) → (List Int) → (List (List Int)) → ((List Int) → PM.R) → PM.R
  | 0, _, _, _, _, _ => none
  | n + 1, t92, t103, o04, o15, kx0_0 =>
    bif (A.lt t103 t92) then
      bif (A.inb t103 (A.vlen o15)) then
        bif (A.room (A.ilen o04) (A.ilen [(A.vget o15 t103 0)])) then
          impl_CellsOf_l0 A c_87 n t92 (A.add .i64 t103 1) (A.iapp o04 [(A.vget o15 t103 0)]) o15 kx0_0
        else
          none
      else
        none
    else
      kx0_0 o04
noncomputable def impl_CellsOf_f (A : PM.Prims) (c_87 : impl_Net_T) (l : List (List Int)) (k : (List Int) → PM.R) : PM.R :=
  c_87 l (fun r1 =>
    impl_CellsOf_l0 A c_87 A.fuel (A.vlen r1) 0 [] r1 (fun o067 =>
      k o067))
noncomputable def impl_CellsOf (A : PM.Prims) : impl_CellsOf_T := impl_CellsOf_f A (impl_Net A)
noncomputable def impl_CellsOf_L (A : PM.Prims) (c_87 : impl_Net_T) (n : Nat) : PM.Lam := fun cur σ K =>
  match cur, σ, K with
  | 0, ⟨[(3, .sref 0), (8, .sref 1), (9, .int .i64 t92), (10, .int .i64 t103)], [(0, .arr true (.ints 3 .i64 o04)), (1, .arr true (.vecs 135 2 o15))]⟩, K => impl_CellsOf_l0 A c_87 n t92 t103 o04 o15 (fun o06 => K (.exit 0) ⟨[(3, .sref 0)], [(0, .arr true (.ints 3 .i64 o06))]⟩)
  | _, _, _ => none
noncomputable def impl_CellsOf_E (A : PM.Prims) (c_87 : impl_Net_T) : PM.Env := ⟨[(87, ⟨[], impl_Net_w c_87, none⟩)], [], [(0, [3, 8, 9, 10], [2, 3])], [(0, [0]), (1, [0, 3]), (2, [3, 8, 9, 10]), (3, [3, 8, 9, 10, 11]), (4, [3, 5, 8, 9, 10]), (5, [3, 8, 9, 10]), (6, [3, 8, 9, 10]), (7, [2])], impl_CellsOf_L A c_87 A.fuel⟩
theorem impl_CellsOf_l0_ok (A : PM.Prims) (c_87 : impl_Net_T) (n : Nat) (t92 : Int) (t103 : Int) (o04 : List Int) (o15 : List (List Int)) (K : Go.Exit → PM.S → PM.R) : impl_CellsOf_L A c_87 (n + 1) 0 ⟨[(3, .sref 0), (8, .sref 1), (9, .int .i64 t92), (10, .int .i64 t103)], [(0, .arr true (.ints 3 .i64 o04)), (1, .arr true (.vecs 135 2 o15))]⟩ K = PM.roundF A cx (PM.runD A cx (impl_CellsOf_E A c_87).inl (impl_CellsOf_E A c_87).Γ 3) (impl_CellsOf_E A c_87) (impl_CellsOf_L A c_87 n) 0 Go.Proofs.Try.f90 ⟨[(3, .sref 0), (8, .sref 1), (9, .int .i64 t92), (10, .int .i64 t103)], [(0, .arr true (.ints 3 .i64 o04)), (1, .arr true (.vecs 135 2 o15))]⟩ K := by kernel_rfl
theorem impl_CellsOf_ok (A : PM.Prims) (c_87 : impl_Net_T) (l : List (List Int)) (k : PM.V → PM.R) : PM.pfun A cx [] (impl_CellsOf_E A c_87) Go.Proofs.Try.f90 [.arr (.vecs 135 2 l)] k = impl_CellsOf_f A c_87 l (fun r0 => k (.arr (.ints 3 .i64 r0))) := by kernel_rfl

theorem impl_CellsOf_fn : PM.FnIs Try.prog 90 Try.f90 := .of Try.func90 (by kernel_rfl) (by kernel_rfl)
theorem impl_CellsOf_g : PM.GOk Try.prog cx 90 ⟨[], impl_CellsOf_w (impl_CellsOf PM.std), none⟩ := by
  refine ⟨impl_CellsOf_fn.enter, fun _ ds k r h => ?_, fun hm => absurd rfl hm, fun _ e => (by cases e)⟩
  change impl_CellsOf_w (impl_CellsOf PM.std) ds k = some r at h
  unfold impl_CellsOf_w at h
  split at h
  · exact PM.pfun_ok (E := impl_CellsOf_E PM.std (impl_Net PM.std)) (L := fun n => impl_CellsOf_L PM.std (impl_Net PM.std) n) (N := PM.std.fuel) cx_ok (.cons impl_Net_g .nil) mixed .nil impl_CellsOf_fn (by kernel_rfl) ⟨rfl, fun cur σ K => by
      dsimp only [impl_CellsOf_L]
      split <;> rfl, fun n cur σ K r h => by
      dsimp only [impl_CellsOf_L] at h
      split at h
      · exact (impl_CellsOf_l0_ok PM.std (impl_Net PM.std) n _ _ _ _ K).symm.trans h
      · cases h⟩
      ((impl_CellsOf_ok PM.std (impl_Net PM.std) _ k).trans h)
  · cases h

abbrev impl_CommitNew_T := (Int) → (Int) → (List (List Int)) → (List (List Int)) → ((Int) → (Int) → (Int) → (Int) → (Int) → (List (List Int)) → (List Int) → (Bool) → PM.R) → PM.R
noncomputable def impl_CommitNew_w (c : impl_CommitNew_T) (ds : List PM.V) (k : PM.V → PM.R) : PM.R :=
  match ds with
  | [.int .i64 who, .int .i64 rv, .arr (.vecs 135 2 puts), .arr (.vecs 135 2 reads)] => c who rv puts reads (fun r0_Who r0_Rv r0_Phase r0_At r0_Wv r0_Puts r0_Reads r1 => k (.tup [.agg [.int .i64 r0_Who, .int .i64 r0_Rv, .int .i64 r0_Phase, .int .i64 r0_At, .int .i64 r0_Wv, .arr (.vecs 135 2 r0_Puts), .arr (.ints 3 .i64 r0_Reads)], .bool r1]))
  | _ => none
noncomputable def impl_CommitNew_f (A : PM.Prims) (c_97 : impl_within_T) (c_123 : impl_isOwner_T) (c_124 : impl_RowsOk_T) (c_87 : impl_Net_T) (c_90 : impl_CellsOf_T) (who : Int) (rv : Int) (puts : List (List Int)) (reads : List (List Int)) (k : (Int) → (Int) → (Int) → (Int) → (Int) → (List (List Int)) → (List Int) → (Bool) → PM.R) : PM.R :=
  c_123 who (fun r1 =>
    bif (A.not r1) then
      k 0 0 0 0 0 [] [] false
    else
      c_97 rv 0 1000000 (fun r2 =>
        bif (A.not r2) then
          k 0 0 0 0 0 [] [] false
        else
          c_124 puts (fun r3 =>
            bif (A.not r3) then
              k 0 0 0 0 0 [] [] false
            else
              c_124 reads (fun r4 =>
                bif (A.not r4) then
                  k 0 0 0 0 0 [] [] false
                else
                  c_87 puts (fun r5 =>
                    c_90 reads (fun r6 =>
                      bif (A.eq (A.vlen r5) 0) then
                        k who rv 2 0 0 r5 r6 true
                      else
                        k who rv 1 0 0 r5 r6 true))))))
noncomputable def impl_CommitNew (A : PM.Prims) : impl_CommitNew_T := impl_CommitNew_f A (impl_within A) (impl_isOwner A) (impl_RowsOk A) (impl_Net A) (impl_CellsOf A)
noncomputable def impl_CommitNew_L (A : PM.Prims) (c_97 : impl_within_T) (c_123 : impl_isOwner_T) (c_124 : impl_RowsOk_T) (c_87 : impl_Net_T) (c_90 : impl_CellsOf_T) (n : Nat) : PM.Lam := fun cur σ K =>
  match cur, σ, K with
  | _, _, _ => none
noncomputable def impl_CommitNew_E (A : PM.Prims) (c_97 : impl_within_T) (c_123 : impl_isOwner_T) (c_124 : impl_RowsOk_T) (c_87 : impl_Net_T) (c_90 : impl_CellsOf_T) : PM.Env := ⟨[(97, ⟨[], impl_within_w c_97, none⟩), (123, ⟨[], impl_isOwner_w c_123, none⟩), (124, ⟨[], impl_RowsOk_w c_124, none⟩), (87, ⟨[], impl_Net_w c_87, none⟩), (90, ⟨[], impl_CellsOf_w c_90, none⟩)], [], [], [(0, [0, 1, 2, 3, 8]), (1, [0, 1, 2, 3, 8, 28]), (2, [8, 9]), (3, [8, 10]), (4, [8, 10, 40]), (5, [8, 10]), (6, [8, 9])], impl_CommitNew_L A c_97 c_123 c_124 c_87 c_90 A.fuel⟩
theorem impl_CommitNew_ok (A : PM.Prims) (c_97 : impl_within_T) (c_123 : impl_isOwner_T) (c_124 : impl_RowsOk_T) (c_87 : impl_Net_T) (c_90 : impl_CellsOf_T) (who : Int) (rv : Int) (puts : List (List Int)) (reads : List (List Int)) (k : PM.V → PM.R) : PM.pfun A cx [] (impl_CommitNew_E A c_97 c_123 c_124 c_87 c_90) Go.Proofs.Try.f69 [.int .i64 who, .int .i64 rv, .arr (.vecs 135 2 puts), .arr (.vecs 135 2 reads)] k = impl_CommitNew_f A c_97 c_123 c_124 c_87 c_90 who rv puts reads (fun r0_Who r0_Rv r0_Phase r0_At r0_Wv r0_Puts r0_Reads r1 => k (.tup [.agg [.int .i64 r0_Who, .int .i64 r0_Rv, .int .i64 r0_Phase, .int .i64 r0_At, .int .i64 r0_Wv, .arr (.vecs 135 2 r0_Puts), .arr (.ints 3 .i64 r0_Reads)], .bool r1])) := by kernel_rfl

theorem impl_CommitNew_fn : PM.FnIs Try.prog 69 Try.f69 := .of Try.func69 (by kernel_rfl) (by kernel_rfl)
theorem impl_CommitNew_g : PM.GOk Try.prog cx 69 ⟨[], impl_CommitNew_w (impl_CommitNew PM.std), none⟩ := by
  refine ⟨impl_CommitNew_fn.enter, fun _ ds k r h => ?_, fun hm => absurd rfl hm, fun _ e => (by cases e)⟩
  change impl_CommitNew_w (impl_CommitNew PM.std) ds k = some r at h
  unfold impl_CommitNew_w at h
  split at h
  · exact PM.pfun_ok (E := impl_CommitNew_E PM.std (impl_within PM.std) (impl_isOwner PM.std) (impl_RowsOk PM.std) (impl_Net PM.std) (impl_CellsOf PM.std)) (L := fun n => impl_CommitNew_L PM.std (impl_within PM.std) (impl_isOwner PM.std) (impl_RowsOk PM.std) (impl_Net PM.std) (impl_CellsOf PM.std) n) (N := PM.std.fuel) cx_ok (.cons impl_within_g (.cons impl_isOwner_g (.cons impl_RowsOk_g (.cons impl_Net_g (.cons impl_CellsOf_g .nil))))) mixed .nil impl_CommitNew_fn (by kernel_rfl) ⟨rfl, fun _ _ _ => rfl, fun n cur σ K r h => by cases h⟩
      ((impl_CommitNew_ok PM.std (impl_within PM.std) (impl_isOwner PM.std) (impl_RowsOk PM.std) (impl_Net PM.std) (impl_CellsOf PM.std) _ _ _ _ k).trans h)
  · cases h

abbrev laws_markRowS_T := (List (List Int)) → (Int) → ((Int) → (List (List Int)) → PM.R) → PM.R
noncomputable def laws_markRowS_w (c : laws_markRowS_T) (ds : List PM.V) (k : PM.V → PM.R) : PM.R :=
  match ds with
  | [.arr (.vecs 135 2 a), .int .i64 k_] => c a k_ (fun r0 o0 => k (.tup [.int .i64 r0, .arr (.vecs 135 2 o0)]))
  | _ => none
noncomputable def laws_markRowS_l0 (A : PM.Prims) : Nat → (Int) → (Int) → (List (List Int)) → ((Int) → (List (List Int)) → PM.R) → PM.R
  | 0, _, _, _, _ => none
  | n + 1, k1, i2, o03, kx0_0 =>
    bif (A.lt i2 (A.vlen o03)) then
      bif (A.inb i2 (A.vlen o03)) then
        bif (A.inb i2 (A.vlen (A.vset o03 i2 0 k1))) then
          laws_markRowS_l0 A n (A.add .i64 (A.add .i64 k1 1) 1) (A.add .i64 i2 1) (A.vset (A.vset o03 i2 0 k1) i2 1 (A.add .i64 k1 1)) kx0_0
        else
          none
      else
        none
    else
      kx0_0 k1 o03
noncomputable def laws_markRowS_f (A : PM.Prims) (a : List (List Int)) (k_ : Int) (k : (Int) → (List (List Int)) → PM.R) : PM.R :=
  laws_markRowS_l0 A A.fuel k_ 0 a (fun k46 o057 =>
    k k46 o057)
noncomputable def laws_markRowS (A : PM.Prims) : laws_markRowS_T := laws_markRowS_f A
noncomputable def laws_markRowS_L (A : PM.Prims) (n : Nat) : PM.Lam := fun cur σ K =>
  match cur, σ, K with
  | 0, ⟨[(0, .sref 0), (1, .int .i64 k1), (5, .int .i64 i2)], [(0, .arr false (.vecs 135 2 o03))]⟩, K => laws_markRowS_l0 A n k1 i2 o03 (fun k4 o05 => K (.exit 0) ⟨[(0, .sref 0), (1, .int .i64 k4)], [(0, .arr false (.vecs 135 2 o05))]⟩)
  | _, _, _ => none
noncomputable def laws_markRowS_E (A : PM.Prims) : PM.Env := ⟨[], [], [(0, [0, 1, 5], [0, 1, 4])], [(0, [0, 1]), (1, [0, 1, 5]), (2, [0, 1, 5, 9]), (3, [0, 1, 5]), (4, [0, 1, 5]), (5, [0, 1, 5]), (6, [0, 1, 5]), (7, [0, 1, 5]), (8, [0, 4])], laws_markRowS_L A A.fuel⟩
theorem laws_markRowS_l0_ok (A : PM.Prims) (n : Nat) (k1 : Int) (i2 : Int) (o03 : List (List Int)) (K : Go.Exit → PM.S → PM.R) : laws_markRowS_L A (n + 1) 0 ⟨[(0, .sref 0), (1, .int .i64 k1), (5, .int .i64 i2)], [(0, .arr false (.vecs 135 2 o03))]⟩ K = PM.roundF A cx (PM.runD A cx (laws_markRowS_E A).inl (laws_markRowS_E A).Γ 3) (laws_markRowS_E A) (laws_markRowS_L A n) 0 Go.Proofs.Try.f71 ⟨[(0, .sref 0), (1, .int .i64 k1), (5, .int .i64 i2)], [(0, .arr false (.vecs 135 2 o03))]⟩ K := by kernel_rfl
theorem laws_markRowS_ok (A : PM.Prims) (a : List (List Int)) (k_ : Int) (k : PM.V → PM.R) : PM.pfun A cx [true, false] (laws_markRowS_E A) Go.Proofs.Try.f71 [.arr (.vecs 135 2 a), .int .i64 k_] k = laws_markRowS_f A a k_ (fun r0 o0 => k (.tup [.int .i64 r0, .arr (.vecs 135 2 o0)])) := by kernel_rfl

theorem laws_markRowS_fn : PM.FnIs Try.prog 71 Try.f71 := .of Try.func71 (by kernel_rfl) (by kernel_rfl)
theorem laws_markRowS_g : PM.GOk Try.prog cx 71 ⟨[true, false], laws_markRowS_w (laws_markRowS PM.std), none⟩ := by
  refine ⟨laws_markRowS_fn.enter, fun hm => (by cases hm), fun _ ds k r h => ?_, fun _ e => (by cases e)⟩
  change laws_markRowS_w (laws_markRowS PM.std) ds k = some r at h
  unfold laws_markRowS_w at h
  split at h
  · exact PM.pfun_okM (List.cons_ne_nil _ _) (E := laws_markRowS_E PM.std) (L := fun n => laws_markRowS_L PM.std n) (N := PM.std.fuel) cx_ok .nil mixed .nil laws_markRowS_fn (by kernel_rfl) ⟨rfl, fun cur σ K => by
      dsimp only [laws_markRowS_L]
      split <;> rfl, fun n cur σ K r h => by
      dsimp only [laws_markRowS_L] at h
      split at h
      · exact (laws_markRowS_l0_ok PM.std n _ _ _ K).symm.trans h
      · cases h⟩
      ((laws_markRowS_ok PM.std _ _ k).trans h)
  · cases h

abbrev laws_markCommit_T := (Int) → (Int) → (Int) → (Int) → (Int) → (List (List Int)) → (List Int) → (Int) → ((Int) → (List (List Int)) → (List Int) → PM.R) → PM.R
noncomputable def laws_markCommit_w (c : laws_markCommit_T) (ds : List PM.V) (k : PM.V → PM.R) : PM.R :=
  match ds with
  | [.agg [.int .i64 a_Who, .int .i64 a_Rv, .int .i64 a_Phase, .int .i64 a_At, .int .i64 a_Wv, .arr (.vecs 135 2 a_Puts), .arr (.ints 3 .i64 a_Reads)], .int .i64 k_] => c a_Who a_Rv a_Phase a_At a_Wv a_Puts a_Reads k_ (fun r0 o0_Puts o0_Reads => k (.tup [.int .i64 r0, .arr (.vecs 135 2 o0_Puts), .arr (.ints 3 .i64 o0_Reads)]))
  | _ => none
noncomputable def laws_markCommit_f (A : PM.Prims) (c_47 : laws_markIntS_T) (c_71 : laws_markRowS_T) (a_Who : Int) (a_Rv : Int) (a_Phase : Int) (a_At : Int) (a_Wv : Int) (a_Puts : List (List Int)) (a_Reads : List Int) (k_ : Int) (k : (Int) → (List (List Int)) → (List Int) → PM.R) : PM.R :=
  c_71 a_Puts k_ (fun r1 r2 =>
    c_47 a_Reads r1 (fun r3 r4 =>
      k r3 r2 r4))
noncomputable def laws_markCommit (A : PM.Prims) : laws_markCommit_T := laws_markCommit_f A (laws_markIntS A) (laws_markRowS A)
noncomputable def laws_markCommit_L (A : PM.Prims) (c_47 : laws_markIntS_T) (c_71 : laws_markRowS_T) (n : Nat) : PM.Lam := fun cur σ K =>
  match cur, σ, K with
  | _, _, _ => none
noncomputable def laws_markCommit_E (A : PM.Prims) (c_47 : laws_markIntS_T) (c_71 : laws_markRowS_T) : PM.Env := ⟨[(47, ⟨[true, false], laws_markIntS_w c_47, none⟩), (71, ⟨[true, false], laws_markRowS_w c_71, none⟩)], [], [], [(0, [0, 1, 2]), (1, [0, 1, 2]), (2, [0, 1]), (3, [0, 4])], laws_markCommit_L A c_47 c_71 A.fuel⟩
theorem laws_markCommit_ok (A : PM.Prims) (c_47 : laws_markIntS_T) (c_71 : laws_markRowS_T) (a_Who : Int) (a_Rv : Int) (a_Phase : Int) (a_At : Int) (a_Wv : Int) (a_Puts : List (List Int)) (a_Reads : List Int) (k_ : Int) (k : PM.V → PM.R) : PM.pfun A cx [true, false] (laws_markCommit_E A c_47 c_71) Go.Proofs.Try.f72 [.agg [.int .i64 a_Who, .int .i64 a_Rv, .int .i64 a_Phase, .int .i64 a_At, .int .i64 a_Wv, .arr (.vecs 135 2 a_Puts), .arr (.ints 3 .i64 a_Reads)], .int .i64 k_] k = laws_markCommit_f A c_47 c_71 a_Who a_Rv a_Phase a_At a_Wv a_Puts a_Reads k_ (fun r0 o0_Puts o0_Reads => k (.tup [.int .i64 r0, .arr (.vecs 135 2 o0_Puts), .arr (.ints 3 .i64 o0_Reads)])) := by kernel_rfl

theorem laws_markCommit_fn : PM.FnIs Try.prog 72 Try.f72 := .of Try.func72 (by kernel_rfl) (by kernel_rfl)
theorem laws_markCommit_g : PM.GOk Try.prog cx 72 ⟨[true, false], laws_markCommit_w (laws_markCommit PM.std), none⟩ := by
  refine ⟨laws_markCommit_fn.enter, fun hm => (by cases hm), fun _ ds k r h => ?_, fun _ e => (by cases e)⟩
  change laws_markCommit_w (laws_markCommit PM.std) ds k = some r at h
  unfold laws_markCommit_w at h
  split at h
  · exact PM.pfun_okM (List.cons_ne_nil _ _) (E := laws_markCommit_E PM.std (laws_markIntS PM.std) (laws_markRowS PM.std)) (L := fun n => laws_markCommit_L PM.std (laws_markIntS PM.std) (laws_markRowS PM.std) n) (N := PM.std.fuel) cx_ok (.cons laws_markIntS_g (.cons laws_markRowS_g .nil)) mixed .nil laws_markCommit_fn (by kernel_rfl) ⟨rfl, fun _ _ _ => rfl, fun n cur σ K r h => by cases h⟩
      ((laws_markCommit_ok PM.std (laws_markIntS PM.std) (laws_markRowS PM.std) _ _ _ _ _ _ _ _ k).trans h)
  · cases h

abbrev laws_heldRowS_T := (List (List Int)) → (Int) → ((Int) → PM.R) → PM.R
noncomputable def laws_heldRowS_w (c : laws_heldRowS_T) (ds : List PM.V) (k : PM.V → PM.R) : PM.R :=
  match ds with
  | [.arr (.vecs 135 2 a), .int .i64 k_] => c a k_ (fun r0 => k (.int .i64 r0))
  | _ => none
noncomputable def laws_heldRowS_l0 (A : PM.Prims) : Nat → (List (List Int)) → (Int) → (Int) → ((Int) → PM.R) → ((Int) → PM.R) → PM.R
  | 0, _, _, _, _, _ => none
  | n + 1, a1, k2, i3, kret_0, kx0_0 =>
    bif (A.lt i3 (A.vlen a1)) then
      bif (A.inb i3 (A.vlen a1)) then
        bif (A.not (A.eq (A.vget a1 i3 0) k2)) then
          kret_0 (-1)
        else
          bif (A.inb i3 (A.vlen a1)) then
            bif (A.not (A.eq (A.vget a1 i3 1) (A.add .i64 k2 1))) then
              kret_0 (-1)
            else
              laws_heldRowS_l0 A n a1 (A.add .i64 (A.add .i64 k2 1) 1) (A.add .i64 i3 1) kret_0 kx0_0
          else
            none
      else
        none
    else
      kx0_0 k2
noncomputable def laws_heldRowS_f (A : PM.Prims) (a : List (List Int)) (k_ : Int) (k : (Int) → PM.R) : PM.R :=
  laws_heldRowS_l0 A A.fuel a k_ 0 (fun t446 =>
    k t446) (fun k57 =>
    k k57)
noncomputable def laws_heldRowS (A : PM.Prims) : laws_heldRowS_T := laws_heldRowS_f A
noncomputable def laws_heldRowS_L (A : PM.Prims) (n : Nat) : PM.Lam := fun cur σ K =>
  match cur, σ, K with
  | 0, ⟨[(0, .arr (.vecs 135 2 a1)), (1, .int .i64 k2), (5, .int .i64 i3)], []⟩, K => laws_heldRowS_l0 A n a1 k2 i3 (fun t44 => K .ret ⟨[(4, .int .i64 t44)], []⟩) (fun k5 => K (.exit 0) ⟨[(1, .int .i64 k5)], []⟩)
  | _, _, _ => none
noncomputable def laws_heldRowS_E (A : PM.Prims) : PM.Env := ⟨[], [], [(0, [0, 1, 5], [1, 4])], [(0, [0, 1]), (1, [0, 1, 5]), (2, [0, 1, 5, 9]), (3, [0, 1, 5]), (4, [0, 1, 5, 18]), (5, [4]), (6, [0, 1, 5]), (7, [0, 1, 5, 27]), (8, [4]), (9, [0, 1, 5]), (10, [4])], laws_heldRowS_L A A.fuel⟩
theorem laws_heldRowS_l0_ok (A : PM.Prims) (n : Nat) (a1 : List (List Int)) (k2 : Int) (i3 : Int) (K : Go.Exit → PM.S → PM.R) : laws_heldRowS_L A (n + 1) 0 ⟨[(0, .arr (.vecs 135 2 a1)), (1, .int .i64 k2), (5, .int .i64 i3)], []⟩ K = PM.roundF A cx (PM.runD A cx (laws_heldRowS_E A).inl (laws_heldRowS_E A).Γ 3) (laws_heldRowS_E A) (laws_heldRowS_L A n) 0 Go.Proofs.Try.f130 ⟨[(0, .arr (.vecs 135 2 a1)), (1, .int .i64 k2), (5, .int .i64 i3)], []⟩ K := by kernel_rfl
theorem laws_heldRowS_ok (A : PM.Prims) (a : List (List Int)) (k_ : Int) (k : PM.V → PM.R) : PM.pfun A cx [] (laws_heldRowS_E A) Go.Proofs.Try.f130 [.arr (.vecs 135 2 a), .int .i64 k_] k = laws_heldRowS_f A a k_ (fun r0 => k (.int .i64 r0)) := by kernel_rfl

theorem laws_heldRowS_fn : PM.FnIs Try.prog 130 Try.f130 := .of Try.func130 (by kernel_rfl) (by kernel_rfl)
theorem laws_heldRowS_g : PM.GOk Try.prog cx 130 ⟨[], laws_heldRowS_w (laws_heldRowS PM.std), none⟩ := by
  refine ⟨laws_heldRowS_fn.enter, fun _ ds k r h => ?_, fun hm => absurd rfl hm, fun _ e => (by cases e)⟩
  change laws_heldRowS_w (laws_heldRowS PM.std) ds k = some r at h
  unfold laws_heldRowS_w at h
  split at h
  · exact PM.pfun_ok (E := laws_heldRowS_E PM.std) (L := fun n => laws_heldRowS_L PM.std n) (N := PM.std.fuel) cx_ok .nil mixed .nil laws_heldRowS_fn (by kernel_rfl) ⟨rfl, fun cur σ K => by
      dsimp only [laws_heldRowS_L]
      split <;> rfl, fun n cur σ K r h => by
      dsimp only [laws_heldRowS_L] at h
      split at h
      · exact (laws_heldRowS_l0_ok PM.std n _ _ _ K).symm.trans h
      · cases h⟩
      ((laws_heldRowS_ok PM.std _ _ k).trans h)
  · cases h

abbrev laws_heldCommit_T := (Int) → (Int) → (Int) → (Int) → (Int) → (List (List Int)) → (List Int) → (Int) → ((Int) → PM.R) → PM.R
noncomputable def laws_heldCommit_w (c : laws_heldCommit_T) (ds : List PM.V) (k : PM.V → PM.R) : PM.R :=
  match ds with
  | [.agg [.int .i64 a_Who, .int .i64 a_Rv, .int .i64 a_Phase, .int .i64 a_At, .int .i64 a_Wv, .arr (.vecs 135 2 a_Puts), .arr (.ints 3 .i64 a_Reads)], .int .i64 k_] => c a_Who a_Rv a_Phase a_At a_Wv a_Puts a_Reads k_ (fun r0 => k (.int .i64 r0))
  | _ => none
noncomputable def laws_heldCommit_f (A : PM.Prims) (c_48 : laws_heldIntS_T) (c_130 : laws_heldRowS_T) (a_Who : Int) (a_Rv : Int) (a_Phase : Int) (a_At : Int) (a_Wv : Int) (a_Puts : List (List Int)) (a_Reads : List Int) (k_ : Int) (k : (Int) → PM.R) : PM.R :=
  c_130 a_Puts k_ (fun r1 =>
    bif (A.lt r1 0) then
      k (-1)
    else
      c_48 a_Reads r1 (fun r2 =>
        bif (A.lt r2 0) then
          k (-1)
        else
          k r2))
noncomputable def laws_heldCommit (A : PM.Prims) : laws_heldCommit_T := laws_heldCommit_f A (laws_heldIntS A) (laws_heldRowS A)
noncomputable def laws_heldCommit_L (A : PM.Prims) (c_48 : laws_heldIntS_T) (c_130 : laws_heldRowS_T) (n : Nat) : PM.Lam := fun cur σ K =>
  match cur, σ, K with
  | _, _, _ => none
noncomputable def laws_heldCommit_E (A : PM.Prims) (c_48 : laws_heldIntS_T) (c_130 : laws_heldRowS_T) : PM.Env := ⟨[(48, ⟨[], laws_heldIntS_w c_48, none⟩), (130, ⟨[], laws_heldRowS_w c_130, none⟩)], [], [], [(0, [1, 2]), (1, [1, 2]), (2, [1, 2, 10]), (3, [4]), (4, [1]), (5, [1, 16]), (6, [4]), (7, [4])], laws_heldCommit_L A c_48 c_130 A.fuel⟩
theorem laws_heldCommit_ok (A : PM.Prims) (c_48 : laws_heldIntS_T) (c_130 : laws_heldRowS_T) (a_Who : Int) (a_Rv : Int) (a_Phase : Int) (a_At : Int) (a_Wv : Int) (a_Puts : List (List Int)) (a_Reads : List Int) (k_ : Int) (k : PM.V → PM.R) : PM.pfun A cx [] (laws_heldCommit_E A c_48 c_130) Go.Proofs.Try.f73 [.agg [.int .i64 a_Who, .int .i64 a_Rv, .int .i64 a_Phase, .int .i64 a_At, .int .i64 a_Wv, .arr (.vecs 135 2 a_Puts), .arr (.ints 3 .i64 a_Reads)], .int .i64 k_] k = laws_heldCommit_f A c_48 c_130 a_Who a_Rv a_Phase a_At a_Wv a_Puts a_Reads k_ (fun r0 => k (.int .i64 r0)) := by kernel_rfl

theorem laws_heldCommit_fn : PM.FnIs Try.prog 73 Try.f73 := .of Try.func73 (by kernel_rfl) (by kernel_rfl)
theorem laws_heldCommit_g : PM.GOk Try.prog cx 73 ⟨[], laws_heldCommit_w (laws_heldCommit PM.std), none⟩ := by
  refine ⟨laws_heldCommit_fn.enter, fun _ ds k r h => ?_, fun hm => absurd rfl hm, fun _ e => (by cases e)⟩
  change laws_heldCommit_w (laws_heldCommit PM.std) ds k = some r at h
  unfold laws_heldCommit_w at h
  split at h
  · exact PM.pfun_ok (E := laws_heldCommit_E PM.std (laws_heldIntS PM.std) (laws_heldRowS PM.std)) (L := fun n => laws_heldCommit_L PM.std (laws_heldIntS PM.std) (laws_heldRowS PM.std) n) (N := PM.std.fuel) cx_ok (.cons laws_heldIntS_g (.cons laws_heldRowS_g .nil)) mixed .nil laws_heldCommit_fn (by kernel_rfl) ⟨rfl, fun _ _ _ => rfl, fun n cur σ K r h => by cases h⟩
      ((laws_heldCommit_ok PM.std (laws_heldIntS PM.std) (laws_heldRowS PM.std) _ _ _ _ _ _ _ _ k).trans h)
  · cases h

abbrev laws_FnExactCommitNew_T := (Int) → (Int) → (List (List Int)) → (List (List Int)) → ((Bool) → PM.R) → PM.R
noncomputable def laws_FnExactCommitNew_w (c : laws_FnExactCommitNew_T) (ds : List PM.V) (k : PM.V → PM.R) : PM.R :=
  match ds with
  | [.int .i64 __, .int .i64 a, .arr (.vecs 139 2 r), .arr (.vecs 139 2 r_3)] => c __ a r r_3 (fun r0 => k (.bool r0))
  | _ => none
noncomputable def laws_FnExactCommitNew_f (A : PM.Prims) (c_66 : laws_szRowS_T) (c_68 : laws_toRowS_T) (c_70 : laws_eqRowS_T) (c_63 : laws_eqCommit_T) (c_67 : spec_CommitNew_T) (c_69 : impl_CommitNew_T) (c_71 : laws_markRowS_T) (c_72 : laws_markCommit_T) (c_73 : laws_heldCommit_T) (__ : Int) (a : Int) (r : List (List Int)) (r_3 : List (List Int)) (k : (Bool) → PM.R) : PM.R :=
  c_66 r 1048576 (fun r1 =>
    bif (A.lt r1 0) then
      k true
    else
      c_66 r_3 r1 (fun r2 =>
        bif (A.lt r2 0) then
          k true
        else
          c_68 r (fun r3 =>
            c_68 r_3 (fun r4 =>
              c_67 __ a r3 r4 (fun r5 r6 r7 r8 r9 r10 r11 r12 =>
                c_68 r (fun r13 =>
                  c_68 r_3 (fun r14 =>
                    c_69 __ a r13 r14 (fun r15 r16 r17 r18 r19 r20 r21 r22 =>
                      c_63 r15 r16 r17 r18 r19 r20 r21 r5 r6 r7 r8 r9 r10 r11 (fun r23 =>
                        bif (A.not r23) then
                          k false
                        else
                          bif (A.not (A.beq r22 r12)) then
                            k false
                          else
                            c_68 r (fun r24 =>
                              c_70 r13 r24 (fun r25 =>
                                bif (A.not r25) then
                                  k false
                                else
                                  c_68 r_3 (fun r26 =>
                                    c_70 r14 r26 (fun r27 =>
                                      bif (A.not r27) then
                                        k false
                                      else
                                        c_71 r13 1 (fun r28 r29 =>
                                          c_71 r14 r28 (fun r30 r31 =>
                                            bif (A.lt r30 0) then
                                              k false
                                            else
                                              c_63 r15 r16 r17 r18 r19 r20 r21 r5 r6 r7 r8 r9 r10 r11 (fun r32 =>
                                                bif (A.not r32) then
                                                  k false
                                                else
                                                  bif (A.not (A.beq r22 r12)) then
                                                    k false
                                                  else
                                                    c_72 r15 r16 r17 r18 r19 r20 r21 1 (fun r33 r34 r35 =>
                                                      c_73 r15 r16 r17 r18 r19 r34 r35 1 (fun r36 =>
                                                        bif (A.lt r36 0) then
                                                          k false
                                                        else
                                                          bif (A.not (A.eq r36 r33)) then
                                                            k false
                                                          else
                                                            c_68 r (fun r37 =>
                                                              c_68 r_3 (fun r38 =>
                                                                c_69 __ a r37 r38 (fun r39 r40 r41 r42 r43 r44 r45 r46 =>
                                                                  c_63 r39 r40 r41 r42 r43 r44 r45 r5 r6 r7 r8 r9 r10 r11 (fun r47 =>
                                                                    bif (A.not r47) then
                                                                      k false
                                                                    else
                                                                      bif (A.not (A.beq r46 r12)) then
                                                                        k false
                                                                      else
                                                                        c_73 r15 r16 r17 r18 r19 r34 r35 1 (fun r48 =>
                                                                          bif (A.lt r48 0) then
                                                                            k false
                                                                          else
                                                                            bif (A.not (A.eq r48 r33)) then
                                                                              k false
                                                                            else
                                                                              k true)))))))))))))))))))))))
noncomputable def laws_FnExactCommitNew (A : PM.Prims) : laws_FnExactCommitNew_T := laws_FnExactCommitNew_f A (laws_szRowS A) (laws_toRowS A) (laws_eqRowS A) (laws_eqCommit A) (spec_CommitNew A) (impl_CommitNew A) (laws_markRowS A) (laws_markCommit A) (laws_heldCommit A)
noncomputable def laws_FnExactCommitNew_L (A : PM.Prims) (c_66 : laws_szRowS_T) (c_68 : laws_toRowS_T) (c_70 : laws_eqRowS_T) (c_63 : laws_eqCommit_T) (c_67 : spec_CommitNew_T) (c_69 : impl_CommitNew_T) (c_71 : laws_markRowS_T) (c_72 : laws_markCommit_T) (c_73 : laws_heldCommit_T) (n : Nat) : PM.Lam := fun cur σ K =>
  match cur, σ, K with
  | _, _, _ => none
noncomputable def laws_FnExactCommitNew_E (A : PM.Prims) (c_66 : laws_szRowS_T) (c_68 : laws_toRowS_T) (c_70 : laws_eqRowS_T) (c_63 : laws_eqCommit_T) (c_67 : spec_CommitNew_T) (c_69 : impl_CommitNew_T) (c_71 : laws_markRowS_T) (c_72 : laws_markCommit_T) (c_73 : laws_heldCommit_T) : PM.Env := ⟨[(66, ⟨[], laws_szRowS_w c_66, none⟩), (68, ⟨[], laws_toRowS_w c_68, none⟩), (70, ⟨[], laws_eqRowS_w c_70, none⟩), (63, ⟨[], laws_eqCommit_w c_63, none⟩), (67, ⟨[], spec_CommitNew_w c_67, none⟩), (69, ⟨[], impl_CommitNew_w c_69, none⟩), (71, ⟨[true, false], laws_markRowS_w c_71, none⟩), (72, ⟨[true, false], laws_markCommit_w c_72, none⟩), (73, ⟨[], laws_heldCommit_w c_73, none⟩)], [], [], [(0, [0, 1, 2, 3]), (1, [0, 1, 2, 3, 9]), (2, [0, 1, 2, 3, 9]), (3, [0, 1, 2, 3, 9, 25]), (4, [8]), (5, [0, 1, 2, 3, 9]), (6, [0, 1, 2, 3, 30]), (7, [8]), (8, [0, 1, 2, 3, 10, 11]), (9, [0, 1, 2, 3, 10, 11, 12]), (10, [0, 1, 2, 3, 10, 11, 12, 13]), (11, [0, 1, 2, 3, 10, 11, 12, 13, 14, 15]), (12, [0, 1, 2, 3, 10, 11, 12, 13, 14, 15, 61]), (13, [8]), (14, [0, 1, 2, 3, 10, 11, 12, 13, 14, 15, 66]), (15, [8]), (16, [0, 1, 2, 3, 10, 11, 12, 13, 14, 15, 71]), (17, [8]), (18, [0, 1, 2, 3, 10, 11, 12, 13, 14, 15, 16]), (19, [0, 1, 2, 3, 10, 11, 13, 14, 15, 16]), (20, [0, 1, 2, 3, 10, 11, 14, 15, 16]), (21, [0, 1, 2, 3, 10, 11, 14, 90]), (22, [8]), (23, [0, 1, 2, 3, 10, 11, 14, 17]), (24, [0, 1, 2, 3, 10, 11, 14, 17]), (25, [0, 1, 2, 3, 10, 11, 14, 17, 18]), (26, [0, 1, 2, 3, 10, 11, 14, 17, 18]), (27, [0, 1, 2, 3, 10, 11, 14, 17, 18, 98]), (28, [8]), (29, [0, 1, 2, 3, 10, 11, 14, 17, 101]), (30, [8]), (31, [10, 11, 14, 17, 19, 20]), (32, [14, 17, 120]), (33, [8]), (34, [14, 17, 18]), (35, [17, 18]), (36, [17, 18, 125]), (37, [8]), (38, [128]), (39, [8]), (40, [8])], laws_FnExactCommitNew_L A c_66 c_68 c_70 c_63 c_67 c_69 c_71 c_72 c_73 A.fuel⟩
theorem laws_FnExactCommitNew_ok (A : PM.Prims) (c_66 : laws_szRowS_T) (c_68 : laws_toRowS_T) (c_70 : laws_eqRowS_T) (c_63 : laws_eqCommit_T) (c_67 : spec_CommitNew_T) (c_69 : impl_CommitNew_T) (c_71 : laws_markRowS_T) (c_72 : laws_markCommit_T) (c_73 : laws_heldCommit_T) (__ : Int) (a : Int) (r : List (List Int)) (r_3 : List (List Int)) (k : PM.V → PM.R) : PM.pfun A cx [] (laws_FnExactCommitNew_E A c_66 c_68 c_70 c_63 c_67 c_69 c_71 c_72 c_73) Go.Proofs.Try.f16 [.int .i64 __, .int .i64 a, .arr (.vecs 139 2 r), .arr (.vecs 139 2 r_3)] k = laws_FnExactCommitNew_f A c_66 c_68 c_70 c_63 c_67 c_69 c_71 c_72 c_73 __ a r r_3 (fun r0 => k (.bool r0)) := by kernel_rfl

theorem laws_FnExactCommitNew_fn : PM.FnIs Try.prog 16 Try.f16 := .of Try.func16 (by kernel_rfl) (by kernel_rfl)
theorem laws_FnExactCommitNew_g : PM.GOk Try.prog cx 16 ⟨[], laws_FnExactCommitNew_w (laws_FnExactCommitNew PM.std), none⟩ := by
  refine ⟨laws_FnExactCommitNew_fn.enter, fun _ ds k r h => ?_, fun hm => absurd rfl hm, fun _ e => (by cases e)⟩
  change laws_FnExactCommitNew_w (laws_FnExactCommitNew PM.std) ds k = some r at h
  unfold laws_FnExactCommitNew_w at h
  split at h
  · exact PM.pfun_ok (E := laws_FnExactCommitNew_E PM.std (laws_szRowS PM.std) (laws_toRowS PM.std) (laws_eqRowS PM.std) (laws_eqCommit PM.std) (spec_CommitNew PM.std) (impl_CommitNew PM.std) (laws_markRowS PM.std) (laws_markCommit PM.std) (laws_heldCommit PM.std)) (L := fun n => laws_FnExactCommitNew_L PM.std (laws_szRowS PM.std) (laws_toRowS PM.std) (laws_eqRowS PM.std) (laws_eqCommit PM.std) (spec_CommitNew PM.std) (impl_CommitNew PM.std) (laws_markRowS PM.std) (laws_markCommit PM.std) (laws_heldCommit PM.std) n) (N := PM.std.fuel) cx_ok (.cons laws_szRowS_g (.cons laws_toRowS_g (.cons laws_eqRowS_g (.cons laws_eqCommit_g (.cons spec_CommitNew_g (.cons impl_CommitNew_g (.cons laws_markRowS_g (.cons laws_markCommit_g (.cons laws_heldCommit_g .nil))))))))) mixed .nil laws_FnExactCommitNew_fn (by kernel_rfl) ⟨rfl, fun _ _ _ => rfl, fun n cur σ K r h => by cases h⟩
      ((laws_FnExactCommitNew_ok PM.std (laws_szRowS PM.std) (laws_toRowS PM.std) (laws_eqRowS PM.std) (laws_eqCommit PM.std) (spec_CommitNew PM.std) (impl_CommitNew PM.std) (laws_markRowS PM.std) (laws_markCommit PM.std) (laws_heldCommit PM.std) _ _ _ _ k).trans h)
  · cases h

end X
