/- Models of the functions, or plain laws about them; each theorem states its own conditions. -/
import Derived.Test.YtnkgcegeinemjaaL3
import Derived.Test.YtnkgcegeinemjaaW3
import Derived.Test.YtnkgcegeinemjaaProg
import Derived.KernelRfl
set_option linter.unusedVariables false
set_option linter.unusedSimpArgs false
open Go.Proofs
namespace X
open PM
set_option maxRecDepth 100000
set_option maxHeartbeats 4000000
noncomputable def cx : PM.Cx := [
  (2, ⟨1, false, [.int .i64 0], none, 0, none, [], [], [], [.int .i64], false⟩),
  (3, ⟨1, false, [.int .i64 0], none, 0, none, [], [], [], [.int .i64], false⟩),
  (4, ⟨1, false, [.bool false], none, 0, none, [], [], [], [.bool], false⟩),
  (5, ⟨1, false, [.int .u8 0], none, 0, none, [], [], [], [.int .u8], false⟩),
  (6, ⟨1, false, [.int .u8 0], none, 0, none, [], [], [], [.int .u8], false⟩),
  (7, ⟨4, true, [.int .i64 0, .int .i64 0, .bool false, .int .u8 0], none, 0, none, [0, 1, 2, 3], [1, 1, 1, 1], [2, 3, 4, 6], [.int .i64, .int .i64, .bool, .int .u8], true⟩),
  (8, ⟨4, true, [.int .i64 0, .int .i64 0, .bool false, .int .u8 0], none, 0, none, [0, 1, 2, 3], [1, 1, 1, 1], [2, 3, 4, 6], [.int .i64, .int .i64, .bool, .int .u8], true⟩),
  (12, ⟨1, false, [.int .u64 0], none, 0, none, [], [], [], [.int .u64], false⟩),
  (21, ⟨1, false, [.int .i32 0], none, 0, none, [], [], [], [.int .i32], false⟩),
  (22, ⟨4, true, [.int .i64 0, .int .i64 0, .int .i64 0, .int .i64 0], none, 0, none, [0, 1, 2, 3], [1, 1, 1, 1], [3, 3, 3, 3], [.int .i64, .int .i64, .int .i64, .int .i64], true⟩),
  (23, ⟨4, true, [.int .i64 0, .int .i64 0, .int .i64 0, .int .i64 0], none, 0, none, [0, 1, 2, 3], [1, 1, 1, 1], [3, 3, 3, 3], [.int .i64, .int .i64, .int .i64, .int .i64], true⟩),
  (25, ⟨4, true, [.int .i64 0, .int .i64 0, .int .i64 0, .int .i64 0], none, 0, none, [0, 1, 2, 3], [1, 1, 1, 1], [3, 3, 3, 3], [.int .i64, .int .i64, .int .i64, .int .i64], true⟩),
  (32, ⟨1, false, [.arr (.emp (.vecs 155 3))], some (.vecs 155 3), 3, none, [], [], [], [.sl 32], false⟩),
  (33, ⟨2, true, [.int .i64 0, .arr (.emp (.vecs 155 3))], none, 0, none, [0, 1], [1, 1], [3, 32], [.int .i64, .sl 32], false⟩),
  (34, ⟨2, true, [.int .i64 0, .arr (.emp (.vecs 155 3))], none, 0, none, [0, 1], [1, 1], [3, 32], [.int .i64, .sl 32], false⟩),
  (37, ⟨1, false, [.arr (.emp (.vecs 49 3))], some (.vecs 49 3), 3, none, [], [], [], [.sl 37], false⟩),
  (38, ⟨2, true, [.int .i64 0, .arr (.emp (.vecs 49 3))], none, 0, none, [0, 1], [1, 1], [3, 37], [.int .i64, .sl 37], false⟩),
  (39, ⟨2, true, [.int .i64 0, .arr (.emp (.vecs 49 3))], none, 0, none, [0, 1], [1, 1], [3, 37], [.int .i64, .sl 37], false⟩),
  (43, ⟨1, false, [.arr (.emp (.ints 5 .u8))], some (.ints 5 .u8), 1, none, [], [], [], [.sl 43], false⟩),
  (48, ⟨3, true, [.int .i64 0, .int .i64 0, .int .i64 0], none, 0, none, [0, 1, 2], [1, 1, 1], [3, 3, 3], [.int .i64, .int .i64, .int .i64], true⟩),
  (49, ⟨3, true, [.int .i64 0, .int .i64 0, .int .i64 0], none, 0, none, [0, 1, 2], [1, 1, 1], [3, 3, 3], [.int .i64, .int .i64, .int .i64], true⟩),
  (50, ⟨1, false, [.arr (.emp (.vecs 124 3))], some (.vecs 124 3), 3, none, [], [], [], [.sl 50], false⟩),
  (53, ⟨1, false, [.arr (.emp (.vecs 73 3))], some (.vecs 73 3), 3, none, [], [], [], [.sl 53], false⟩),
  (59, ⟨1, false, [.arr (.emp (.ints 3 .i64))], some (.ints 3 .i64), 1, none, [], [], [], [.sl 59], false⟩),
  (72, ⟨3, true, [.int .i64 0, .int .i64 0, .int .i64 0], none, 0, none, [0, 1, 2], [1, 1, 1], [3, 3, 3], [.int .i64, .int .i64, .int .i64], true⟩),
  (73, ⟨3, true, [.int .i64 0, .int .i64 0, .int .i64 0], none, 0, none, [0, 1, 2], [1, 1, 1], [3, 3, 3], [.int .i64, .int .i64, .int .i64], true⟩),
  (75, ⟨1, false, [.arr (.emp (.vecs 139 2))], some (.vecs 139 2), 2, none, [], [], [], [.sl 75], false⟩),
  (76, ⟨7, true, [.int .i64 0, .int .i64 0, .int .i64 0, .int .i64 0, .int .i64 0, .arr (.emp (.vecs 139 2)), .arr (.emp (.ints 3 .i64))], none, 0, none, [0, 1, 2, 3, 4, 5, 6], [1, 1, 1, 1, 1, 1, 1], [3, 3, 3, 3, 3, 75, 59], [.int .i64, .int .i64, .int .i64, .int .i64, .int .i64, .sl 75, .sl 59], false⟩),
  (77, ⟨7, true, [.int .i64 0, .int .i64 0, .int .i64 0, .int .i64 0, .int .i64 0, .arr (.emp (.vecs 139 2)), .arr (.emp (.ints 3 .i64))], none, 0, none, [0, 1, 2, 3, 4, 5, 6], [1, 1, 1, 1, 1, 1, 1], [3, 3, 3, 3, 3, 75, 59], [.int .i64, .int .i64, .int .i64, .int .i64, .int .i64, .sl 75, .sl 59], false⟩),
  (80, ⟨1, false, [.arr (.emp (.vecs 135 2))], some (.vecs 135 2), 2, none, [], [], [], [.sl 80], false⟩),
  (81, ⟨7, true, [.int .i64 0, .int .i64 0, .int .i64 0, .int .i64 0, .int .i64 0, .arr (.emp (.vecs 135 2)), .arr (.emp (.ints 3 .i64))], none, 0, none, [0, 1, 2, 3, 4, 5, 6], [1, 1, 1, 1, 1, 1, 1], [3, 3, 3, 3, 3, 80, 59], [.int .i64, .int .i64, .int .i64, .int .i64, .int .i64, .sl 80, .sl 59], false⟩),
  (82, ⟨7, true, [.int .i64 0, .int .i64 0, .int .i64 0, .int .i64 0, .int .i64 0, .arr (.emp (.vecs 135 2)), .arr (.emp (.ints 3 .i64))], none, 0, none, [0, 1, 2, 3, 4, 5, 6], [1, 1, 1, 1, 1, 1, 1], [3, 3, 3, 3, 3, 80, 59], [.int .i64, .int .i64, .int .i64, .int .i64, .int .i64, .sl 80, .sl 59], false⟩),
  (124, ⟨3, true, [.int .i64 0, .int .i64 0, .int .i64 0], none, 0, none, [0, 1, 2], [1, 1, 1], [3, 3, 3], [.int .i64, .int .i64, .int .i64], true⟩),
  (134, ⟨2, true, [.int .i64 0, .int .i64 0], none, 0, none, [0, 1], [1, 1], [3, 3], [.int .i64, .int .i64], true⟩),
  (135, ⟨2, true, [.int .i64 0, .int .i64 0], none, 0, none, [0, 1], [1, 1], [3, 3], [.int .i64, .int .i64], true⟩),
  (139, ⟨2, true, [.int .i64 0, .int .i64 0], none, 0, none, [0, 1], [1, 1], [3, 3], [.int .i64, .int .i64], true⟩),
  (155, ⟨3, true, [.int .i64 0, .int .i64 0, .int .i64 0], none, 0, none, [0, 1, 2], [1, 1, 1], [3, 3, 3], [.int .i64, .int .i64, .int .i64], true⟩),
  (157, ⟨3, true, [.arr (.emp (.ints 5 .u8)), .int .i64 0, .int .i64 0], none, 0, none, [0, 1, 2], [1, 1, 1], [43, 3, 3], [.sl 43, .int .i64, .int .i64], false⟩),
  (158, ⟨3, true, [.arr (.emp (.ints 5 .u8)), .int .i64 0, .int .i64 0], none, 0, none, [0, 1, 2], [1, 1, 1], [43, 3, 3], [.sl 43, .int .i64, .int .i64], false⟩),
  (163, ⟨1, false, [.int .u64 0], none, 0, none, [], [], [], [.int .u64], false⟩),
  (168, ⟨1, false, [.int .i64 0], none, 0, none, [], [], [], [.int .i64], false⟩),
  (175, ⟨1, false, [.int .u32 0], none, 0, none, [], [], [], [.int .u32], false⟩),
  (177, ⟨1, false, [.int .u64 0], none, 0, none, [], [], [], [.int .u64], false⟩),
  (178, ⟨1, false, [.int .u64 0], none, 0, none, [], [], [], [.int .u64], false⟩),
  (193, ⟨1, false, [.int .u8 0], none, 0, none, [], [], [], [.int .u8], false⟩),
  (194, ⟨1, false, [.int .u8 0], none, 0, none, [], [], [], [.int .u8], false⟩),
  (197, ⟨1, false, [.int .i32 0], none, 0, none, [], [], [], [.int .i32], false⟩),
  (198, ⟨1, false, [.int .i32 0], none, 0, none, [], [], [], [.int .i32], false⟩)]
theorem mixed : Try.prog.follows .mixedOrders = true := by kernel_rfl
theorem cx_ok : PM.CxOk Try.prog cx := PM.cxChk_ok (by kernel_rfl)
theorem cx_read : PM.CxRead Try.prog cx := PM.cxRead_ok (by kernel_rfl)

theorem cx_at2 : PM.find cx 2 = some ⟨1, false, [.int .i64 0], none, 0, none, [], [], [], [.int .i64], false⟩ := by kernel_rfl
theorem cx_at3 : PM.find cx 3 = some ⟨1, false, [.int .i64 0], none, 0, none, [], [], [], [.int .i64], false⟩ := by kernel_rfl
theorem cx_at4 : PM.find cx 4 = some ⟨1, false, [.bool false], none, 0, none, [], [], [], [.bool], false⟩ := by kernel_rfl
theorem cx_at5 : PM.find cx 5 = some ⟨1, false, [.int .u8 0], none, 0, none, [], [], [], [.int .u8], false⟩ := by kernel_rfl
theorem cx_at6 : PM.find cx 6 = some ⟨1, false, [.int .u8 0], none, 0, none, [], [], [], [.int .u8], false⟩ := by kernel_rfl
theorem cx_at7 : PM.find cx 7 = some ⟨4, true, [.int .i64 0, .int .i64 0, .bool false, .int .u8 0], none, 0, none, [0, 1, 2, 3], [1, 1, 1, 1], [2, 3, 4, 6], [.int .i64, .int .i64, .bool, .int .u8], true⟩ := by kernel_rfl
theorem cx_at8 : PM.find cx 8 = some ⟨4, true, [.int .i64 0, .int .i64 0, .bool false, .int .u8 0], none, 0, none, [0, 1, 2, 3], [1, 1, 1, 1], [2, 3, 4, 6], [.int .i64, .int .i64, .bool, .int .u8], true⟩ := by kernel_rfl
theorem cx_at12 : PM.find cx 12 = some ⟨1, false, [.int .u64 0], none, 0, none, [], [], [], [.int .u64], false⟩ := by kernel_rfl
theorem cx_at21 : PM.find cx 21 = some ⟨1, false, [.int .i32 0], none, 0, none, [], [], [], [.int .i32], false⟩ := by kernel_rfl
theorem cx_at22 : PM.find cx 22 = some ⟨4, true, [.int .i64 0, .int .i64 0, .int .i64 0, .int .i64 0], none, 0, none, [0, 1, 2, 3], [1, 1, 1, 1], [3, 3, 3, 3], [.int .i64, .int .i64, .int .i64, .int .i64], true⟩ := by kernel_rfl
theorem cx_at23 : PM.find cx 23 = some ⟨4, true, [.int .i64 0, .int .i64 0, .int .i64 0, .int .i64 0], none, 0, none, [0, 1, 2, 3], [1, 1, 1, 1], [3, 3, 3, 3], [.int .i64, .int .i64, .int .i64, .int .i64], true⟩ := by kernel_rfl
theorem cx_at25 : PM.find cx 25 = some ⟨4, true, [.int .i64 0, .int .i64 0, .int .i64 0, .int .i64 0], none, 0, none, [0, 1, 2, 3], [1, 1, 1, 1], [3, 3, 3, 3], [.int .i64, .int .i64, .int .i64, .int .i64], true⟩ := by kernel_rfl
theorem cx_at32 : PM.find cx 32 = some ⟨1, false, [.arr (.emp (.vecs 155 3))], some (.vecs 155 3), 3, none, [], [], [], [.sl 32], false⟩ := by kernel_rfl
theorem cx_at33 : PM.find cx 33 = some ⟨2, true, [.int .i64 0, .arr (.emp (.vecs 155 3))], none, 0, none, [0, 1], [1, 1], [3, 32], [.int .i64, .sl 32], false⟩ := by kernel_rfl
theorem cx_at34 : PM.find cx 34 = some ⟨2, true, [.int .i64 0, .arr (.emp (.vecs 155 3))], none, 0, none, [0, 1], [1, 1], [3, 32], [.int .i64, .sl 32], false⟩ := by kernel_rfl
theorem cx_at37 : PM.find cx 37 = some ⟨1, false, [.arr (.emp (.vecs 49 3))], some (.vecs 49 3), 3, none, [], [], [], [.sl 37], false⟩ := by kernel_rfl
theorem cx_at38 : PM.find cx 38 = some ⟨2, true, [.int .i64 0, .arr (.emp (.vecs 49 3))], none, 0, none, [0, 1], [1, 1], [3, 37], [.int .i64, .sl 37], false⟩ := by kernel_rfl
theorem cx_at39 : PM.find cx 39 = some ⟨2, true, [.int .i64 0, .arr (.emp (.vecs 49 3))], none, 0, none, [0, 1], [1, 1], [3, 37], [.int .i64, .sl 37], false⟩ := by kernel_rfl
theorem cx_at43 : PM.find cx 43 = some ⟨1, false, [.arr (.emp (.ints 5 .u8))], some (.ints 5 .u8), 1, none, [], [], [], [.sl 43], false⟩ := by kernel_rfl
theorem cx_at48 : PM.find cx 48 = some ⟨3, true, [.int .i64 0, .int .i64 0, .int .i64 0], none, 0, none, [0, 1, 2], [1, 1, 1], [3, 3, 3], [.int .i64, .int .i64, .int .i64], true⟩ := by kernel_rfl
theorem cx_at49 : PM.find cx 49 = some ⟨3, true, [.int .i64 0, .int .i64 0, .int .i64 0], none, 0, none, [0, 1, 2], [1, 1, 1], [3, 3, 3], [.int .i64, .int .i64, .int .i64], true⟩ := by kernel_rfl
theorem cx_at50 : PM.find cx 50 = some ⟨1, false, [.arr (.emp (.vecs 124 3))], some (.vecs 124 3), 3, none, [], [], [], [.sl 50], false⟩ := by kernel_rfl
theorem cx_at53 : PM.find cx 53 = some ⟨1, false, [.arr (.emp (.vecs 73 3))], some (.vecs 73 3), 3, none, [], [], [], [.sl 53], false⟩ := by kernel_rfl
theorem cx_at59 : PM.find cx 59 = some ⟨1, false, [.arr (.emp (.ints 3 .i64))], some (.ints 3 .i64), 1, none, [], [], [], [.sl 59], false⟩ := by kernel_rfl
theorem cx_at72 : PM.find cx 72 = some ⟨3, true, [.int .i64 0, .int .i64 0, .int .i64 0], none, 0, none, [0, 1, 2], [1, 1, 1], [3, 3, 3], [.int .i64, .int .i64, .int .i64], true⟩ := by kernel_rfl
theorem cx_at73 : PM.find cx 73 = some ⟨3, true, [.int .i64 0, .int .i64 0, .int .i64 0], none, 0, none, [0, 1, 2], [1, 1, 1], [3, 3, 3], [.int .i64, .int .i64, .int .i64], true⟩ := by kernel_rfl
theorem cx_at75 : PM.find cx 75 = some ⟨1, false, [.arr (.emp (.vecs 139 2))], some (.vecs 139 2), 2, none, [], [], [], [.sl 75], false⟩ := by kernel_rfl
theorem cx_at76 : PM.find cx 76 = some ⟨7, true, [.int .i64 0, .int .i64 0, .int .i64 0, .int .i64 0, .int .i64 0, .arr (.emp (.vecs 139 2)), .arr (.emp (.ints 3 .i64))], none, 0, none, [0, 1, 2, 3, 4, 5, 6], [1, 1, 1, 1, 1, 1, 1], [3, 3, 3, 3, 3, 75, 59], [.int .i64, .int .i64, .int .i64, .int .i64, .int .i64, .sl 75, .sl 59], false⟩ := by kernel_rfl
theorem cx_at77 : PM.find cx 77 = some ⟨7, true, [.int .i64 0, .int .i64 0, .int .i64 0, .int .i64 0, .int .i64 0, .arr (.emp (.vecs 139 2)), .arr (.emp (.ints 3 .i64))], none, 0, none, [0, 1, 2, 3, 4, 5, 6], [1, 1, 1, 1, 1, 1, 1], [3, 3, 3, 3, 3, 75, 59], [.int .i64, .int .i64, .int .i64, .int .i64, .int .i64, .sl 75, .sl 59], false⟩ := by kernel_rfl
theorem cx_at80 : PM.find cx 80 = some ⟨1, false, [.arr (.emp (.vecs 135 2))], some (.vecs 135 2), 2, none, [], [], [], [.sl 80], false⟩ := by kernel_rfl
theorem cx_at81 : PM.find cx 81 = some ⟨7, true, [.int .i64 0, .int .i64 0, .int .i64 0, .int .i64 0, .int .i64 0, .arr (.emp (.vecs 135 2)), .arr (.emp (.ints 3 .i64))], none, 0, none, [0, 1, 2, 3, 4, 5, 6], [1, 1, 1, 1, 1, 1, 1], [3, 3, 3, 3, 3, 80, 59], [.int .i64, .int .i64, .int .i64, .int .i64, .int .i64, .sl 80, .sl 59], false⟩ := by kernel_rfl
theorem cx_at82 : PM.find cx 82 = some ⟨7, true, [.int .i64 0, .int .i64 0, .int .i64 0, .int .i64 0, .int .i64 0, .arr (.emp (.vecs 135 2)), .arr (.emp (.ints 3 .i64))], none, 0, none, [0, 1, 2, 3, 4, 5, 6], [1, 1, 1, 1, 1, 1, 1], [3, 3, 3, 3, 3, 80, 59], [.int .i64, .int .i64, .int .i64, .int .i64, .int .i64, .sl 80, .sl 59], false⟩ := by kernel_rfl
theorem cx_at124 : PM.find cx 124 = some ⟨3, true, [.int .i64 0, .int .i64 0, .int .i64 0], none, 0, none, [0, 1, 2], [1, 1, 1], [3, 3, 3], [.int .i64, .int .i64, .int .i64], true⟩ := by kernel_rfl
theorem cx_at134 : PM.find cx 134 = some ⟨2, true, [.int .i64 0, .int .i64 0], none, 0, none, [0, 1], [1, 1], [3, 3], [.int .i64, .int .i64], true⟩ := by kernel_rfl
theorem cx_at135 : PM.find cx 135 = some ⟨2, true, [.int .i64 0, .int .i64 0], none, 0, none, [0, 1], [1, 1], [3, 3], [.int .i64, .int .i64], true⟩ := by kernel_rfl
theorem cx_at139 : PM.find cx 139 = some ⟨2, true, [.int .i64 0, .int .i64 0], none, 0, none, [0, 1], [1, 1], [3, 3], [.int .i64, .int .i64], true⟩ := by kernel_rfl
theorem cx_at155 : PM.find cx 155 = some ⟨3, true, [.int .i64 0, .int .i64 0, .int .i64 0], none, 0, none, [0, 1, 2], [1, 1, 1], [3, 3, 3], [.int .i64, .int .i64, .int .i64], true⟩ := by kernel_rfl
theorem cx_at157 : PM.find cx 157 = some ⟨3, true, [.arr (.emp (.ints 5 .u8)), .int .i64 0, .int .i64 0], none, 0, none, [0, 1, 2], [1, 1, 1], [43, 3, 3], [.sl 43, .int .i64, .int .i64], false⟩ := by kernel_rfl
theorem cx_at158 : PM.find cx 158 = some ⟨3, true, [.arr (.emp (.ints 5 .u8)), .int .i64 0, .int .i64 0], none, 0, none, [0, 1, 2], [1, 1, 1], [43, 3, 3], [.sl 43, .int .i64, .int .i64], false⟩ := by kernel_rfl
theorem cx_at163 : PM.find cx 163 = some ⟨1, false, [.int .u64 0], none, 0, none, [], [], [], [.int .u64], false⟩ := by kernel_rfl
theorem cx_at168 : PM.find cx 168 = some ⟨1, false, [.int .i64 0], none, 0, none, [], [], [], [.int .i64], false⟩ := by kernel_rfl
theorem cx_at175 : PM.find cx 175 = some ⟨1, false, [.int .u32 0], none, 0, none, [], [], [], [.int .u32], false⟩ := by kernel_rfl
theorem cx_at177 : PM.find cx 177 = some ⟨1, false, [.int .u64 0], none, 0, none, [], [], [], [.int .u64], false⟩ := by kernel_rfl
theorem cx_at178 : PM.find cx 178 = some ⟨1, false, [.int .u64 0], none, 0, none, [], [], [], [.int .u64], false⟩ := by kernel_rfl
theorem cx_at193 : PM.find cx 193 = some ⟨1, false, [.int .u8 0], none, 0, none, [], [], [], [.int .u8], false⟩ := by kernel_rfl
theorem cx_at194 : PM.find cx 194 = some ⟨1, false, [.int .u8 0], none, 0, none, [], [], [], [.int .u8], false⟩ := by kernel_rfl
theorem cx_at197 : PM.find cx 197 = some ⟨1, false, [.int .i32 0], none, 0, none, [], [], [], [.int .i32], false⟩ := by kernel_rfl
theorem cx_at198 : PM.find cx 198 = some ⟨1, false, [.int .i32 0], none, 0, none, [], [], [], [.int .i32], false⟩ := by kernel_rfl

abbrev laws_toProbe_T := (Int) → (Int) → (Int) → (Int) → ((Int) → (Int) → (Int) → (Int) → PM.R) → PM.R
noncomputable def laws_toProbe_w (c : laws_toProbe_T) (ds : List PM.V) (k : PM.V → PM.R) : PM.R :=
  match ds with
  | [.agg [.int .i64 a_Cell, .int .i64 a_Phase, .int .i64 a_Ver, .int .i64 a_Val]] => c a_Cell a_Phase a_Ver a_Val (fun r0_Cell r0_Phase r0_Ver r0_Val => k (.agg [.int .i64 r0_Cell, .int .i64 r0_Phase, .int .i64 r0_Ver, .int .i64 r0_Val]))
  | _ => none
noncomputable def laws_toProbe_f (A : PM.Prims) (a_Cell : Int) (a_Phase : Int) (a_Ver : Int) (a_Val : Int) (k : (Int) → (Int) → (Int) → (Int) → PM.R) : PM.R :=
  k a_Cell a_Phase a_Ver a_Val
noncomputable def laws_toProbe (A : PM.Prims) : laws_toProbe_T := laws_toProbe_f A
noncomputable def laws_toProbe_L (A : PM.Prims) (n : Nat) : PM.Lam := fun cur σ K =>
  match cur, σ, K with
  | _, _, _ => none
noncomputable def laws_toProbe_E (A : PM.Prims) : PM.Env := ⟨[], [], [], [(0, [1, 2]), (1, [1, 2, 3]), (2, [1, 2, 3]), (3, [1, 2, 3]), (4, [1, 2, 3]), (5, [2, 3]), (6, [2])], laws_toProbe_L A A.fuel⟩
theorem laws_toProbe_ok (A : PM.Prims) (a_Cell : Int) (a_Phase : Int) (a_Ver : Int) (a_Val : Int) (k : PM.V → PM.R) : PM.pfun A cx [] (laws_toProbe_E A) Go.Proofs.Try.f23 [.agg [.int .i64 a_Cell, .int .i64 a_Phase, .int .i64 a_Ver, .int .i64 a_Val]] k = laws_toProbe_f A a_Cell a_Phase a_Ver a_Val (fun r0_Cell r0_Phase r0_Ver r0_Val => k (.agg [.int .i64 r0_Cell, .int .i64 r0_Phase, .int .i64 r0_Ver, .int .i64 r0_Val])) := by kernel_rfl

theorem laws_toProbe_fn : PM.FnIs Try.prog 23 Try.f23 := .of Try.func23 (by kernel_rfl) (by kernel_rfl)
theorem laws_toProbe_g : PM.GOk Try.prog cx 23 ⟨[], laws_toProbe_w (laws_toProbe PM.std), none⟩ := by
  refine ⟨laws_toProbe_fn.enter, fun _ ds k r h => ?_, fun hm => absurd rfl hm, fun _ e => (by cases e)⟩
  change laws_toProbe_w (laws_toProbe PM.std) ds k = some r at h
  unfold laws_toProbe_w at h
  split at h
  · exact PM.pfun_ok (E := laws_toProbe_E PM.std) (L := fun n => laws_toProbe_L PM.std n) (N := PM.std.fuel) cx_ok .nil mixed .nil laws_toProbe_fn (by kernel_rfl) ⟨rfl, fun _ _ _ => rfl, fun n cur σ K r h => by cases h⟩
      ((laws_toProbe_ok PM.std _ _ _ _ k).trans h)
  · cases h

abbrev spec_l1In_T := (Int) → (Int) → (Int) → ((Bool) → PM.R) → PM.R
noncomputable def spec_l1In_w (c : spec_l1In_T) (ds : List PM.V) (k : PM.V → PM.R) : PM.R :=
  match ds with
  | [.int .i64 x, .int .i64 low, .int .i64 high] => c x low high (fun r0 => k (.bool r0))
  | _ => none
noncomputable def spec_l1In_f (A : PM.Prims) (x : Int) (low : Int) (high : Int) (k : (Bool) → PM.R) : PM.R :=
  bif (A.le low x) then
    k (A.le x high)
  else
    k false
noncomputable def spec_l1In (A : PM.Prims) : spec_l1In_T := spec_l1In_f A
noncomputable def spec_l1In_L (A : PM.Prims) (n : Nat) : PM.Lam := fun cur σ K =>
  match cur, σ, K with
  | _, _, _ => none
noncomputable def spec_l1In_E (A : PM.Prims) : PM.Env := ⟨[], [], [], [(0, [0, 1, 2]), (1, [6])], spec_l1In_L A A.fuel⟩
theorem spec_l1In_ok (A : PM.Prims) (x : Int) (low : Int) (high : Int) (k : PM.V → PM.R) : PM.pfun A cx [] (spec_l1In_E A) Go.Proofs.Try.f94 [.int .i64 x, .int .i64 low, .int .i64 high] k = spec_l1In_f A x low high (fun r0 => k (.bool r0)) := by kernel_rfl

theorem spec_l1In_fn : PM.FnIs Try.prog 94 Try.f94 := .of Try.func94 (by kernel_rfl) (by kernel_rfl)
theorem spec_l1In_g : PM.GOk Try.prog cx 94 ⟨[], spec_l1In_w (spec_l1In PM.std), none⟩ := by
  refine ⟨spec_l1In_fn.enter, fun _ ds k r h => ?_, fun hm => absurd rfl hm, fun _ e => (by cases e)⟩
  change spec_l1In_w (spec_l1In PM.std) ds k = some r at h
  unfold spec_l1In_w at h
  split at h
  · exact PM.pfun_ok (E := spec_l1In_E PM.std) (L := fun n => spec_l1In_L PM.std n) (N := PM.std.fuel) cx_ok .nil mixed .nil spec_l1In_fn (by kernel_rfl) ⟨rfl, fun _ _ _ => rfl, fun n cur σ K r h => by cases h⟩
      ((spec_l1In_ok PM.std _ _ _ k).trans h)
  · cases h

abbrev spec_l3Cell_T := (Int) → ((Bool) → PM.R) → PM.R
noncomputable def spec_l3Cell_w (c : spec_l3Cell_T) (ds : List PM.V) (k : PM.V → PM.R) : PM.R :=
  match ds with
  | [.int .i64 i] => c i (fun r0 => k (.bool r0))
  | _ => none
noncomputable def spec_l3Cell_f (A : PM.Prims) (c_94 : spec_l1In_T) (i : Int) (k : (Bool) → PM.R) : PM.R :=
  c_94 i 0 7 (fun r1 =>
    k r1)
noncomputable def spec_l3Cell (A : PM.Prims) : spec_l3Cell_T := spec_l3Cell_f A (spec_l1In A)
noncomputable def spec_l3Cell_L (A : PM.Prims) (c_94 : spec_l1In_T) (n : Nat) : PM.Lam := fun cur σ K =>
  match cur, σ, K with
  | _, _, _ => none
noncomputable def spec_l3Cell_E (A : PM.Prims) (c_94 : spec_l1In_T) : PM.Env := ⟨[(94, ⟨[], spec_l1In_w c_94, none⟩)], [], [], [(0, [0]), (1, [2])], spec_l3Cell_L A c_94 A.fuel⟩
theorem spec_l3Cell_ok (A : PM.Prims) (c_94 : spec_l1In_T) (i : Int) (k : PM.V → PM.R) : PM.pfun A cx [] (spec_l3Cell_E A c_94) Go.Proofs.Try.f93 [.int .i64 i] k = spec_l3Cell_f A c_94 i (fun r0 => k (.bool r0)) := by kernel_rfl

theorem spec_l3Cell_fn : PM.FnIs Try.prog 93 Try.f93 := .of Try.func93 (by kernel_rfl) (by kernel_rfl)
theorem spec_l3Cell_g : PM.GOk Try.prog cx 93 ⟨[], spec_l3Cell_w (spec_l3Cell PM.std), none⟩ := by
  refine ⟨spec_l3Cell_fn.enter, fun _ ds k r h => ?_, fun hm => absurd rfl hm, fun _ e => (by cases e)⟩
  change spec_l3Cell_w (spec_l3Cell PM.std) ds k = some r at h
  unfold spec_l3Cell_w at h
  split at h
  · exact PM.pfun_ok (E := spec_l3Cell_E PM.std (spec_l1In PM.std)) (L := fun n => spec_l3Cell_L PM.std (spec_l1In PM.std) n) (N := PM.std.fuel) cx_ok (.cons spec_l1In_g .nil) mixed .nil spec_l3Cell_fn (by kernel_rfl) ⟨rfl, fun _ _ _ => rfl, fun n cur σ K r h => by cases h⟩
      ((spec_l3Cell_ok PM.std (spec_l1In PM.std) _ k).trans h)
  · cases h

abbrev spec_l3Val_T := (Int) → ((Bool) → PM.R) → PM.R
noncomputable def spec_l3Val_w (c : spec_l3Val_T) (ds : List PM.V) (k : PM.V → PM.R) : PM.R :=
  match ds with
  | [.int .i64 v] => c v (fun r0 => k (.bool r0))
  | _ => none
noncomputable def spec_l3Val_f (A : PM.Prims) (c_94 : spec_l1In_T) (v : Int) (k : (Bool) → PM.R) : PM.R :=
  c_94 v 0 65535 (fun r1 =>
    k r1)
noncomputable def spec_l3Val (A : PM.Prims) : spec_l3Val_T := spec_l3Val_f A (spec_l1In A)
noncomputable def spec_l3Val_L (A : PM.Prims) (c_94 : spec_l1In_T) (n : Nat) : PM.Lam := fun cur σ K =>
  match cur, σ, K with
  | _, _, _ => none
noncomputable def spec_l3Val_E (A : PM.Prims) (c_94 : spec_l1In_T) : PM.Env := ⟨[(94, ⟨[], spec_l1In_w c_94, none⟩)], [], [], [(0, [0]), (1, [2])], spec_l3Val_L A c_94 A.fuel⟩
theorem spec_l3Val_ok (A : PM.Prims) (c_94 : spec_l1In_T) (v : Int) (k : PM.V → PM.R) : PM.pfun A cx [] (spec_l3Val_E A c_94) Go.Proofs.Try.f95 [.int .i64 v] k = spec_l3Val_f A c_94 v (fun r0 => k (.bool r0)) := by kernel_rfl

theorem spec_l3Val_fn : PM.FnIs Try.prog 95 Try.f95 := .of Try.func95 (by kernel_rfl) (by kernel_rfl)
theorem spec_l3Val_g : PM.GOk Try.prog cx 95 ⟨[], spec_l3Val_w (spec_l3Val PM.std), none⟩ := by
  refine ⟨spec_l3Val_fn.enter, fun _ ds k r h => ?_, fun hm => absurd rfl hm, fun _ e => (by cases e)⟩
  change spec_l3Val_w (spec_l3Val PM.std) ds k = some r at h
  unfold spec_l3Val_w at h
  split at h
  · exact PM.pfun_ok (E := spec_l3Val_E PM.std (spec_l1In PM.std)) (L := fun n => spec_l3Val_L PM.std (spec_l1In PM.std) n) (N := PM.std.fuel) cx_ok (.cons spec_l1In_g .nil) mixed .nil spec_l3Val_fn (by kernel_rfl) ⟨rfl, fun _ _ _ => rfl, fun n cur σ K r h => by cases h⟩
      ((spec_l3Val_ok PM.std (spec_l1In PM.std) _ k).trans h)
  · cases h

abbrev spec_ProbeOk_T := (Int) → (Int) → (Int) → (Int) → ((Bool) → PM.R) → PM.R
noncomputable def spec_ProbeOk_w (c : spec_ProbeOk_T) (ds : List PM.V) (k : PM.V → PM.R) : PM.R :=
  match ds with
  | [.agg [.int .i64 p_Cell, .int .i64 p_Phase, .int .i64 p_Ver, .int .i64 p_Val]] => c p_Cell p_Phase p_Ver p_Val (fun r0 => k (.bool r0))
  | _ => none
noncomputable def spec_ProbeOk_f (A : PM.Prims) (c_94 : spec_l1In_T) (c_95 : spec_l3Val_T) (c_93 : spec_l3Cell_T) (p_Cell : Int) (p_Phase : Int) (p_Ver : Int) (p_Val : Int) (k : (Bool) → PM.R) : PM.R :=
  c_93 p_Cell (fun r1 =>
    bif r1 then
      c_94 p_Phase 0 4 (fun r2 =>
        bif r2 then
          c_94 p_Ver 0 1000000 (fun r3 =>
            bif r3 then
              c_95 p_Val (fun r4 =>
                k r4)
            else
              k false)
        else
          k false)
    else
      k false)
noncomputable def spec_ProbeOk (A : PM.Prims) : spec_ProbeOk_T := spec_ProbeOk_f A (spec_l1In A) (spec_l3Val A) (spec_l3Cell A)
noncomputable def spec_ProbeOk_L (A : PM.Prims) (c_94 : spec_l1In_T) (c_95 : spec_l3Val_T) (c_93 : spec_l3Cell_T) (n : Nat) : PM.Lam := fun cur σ K =>
  match cur, σ, K with
  | _, _, _ => none
noncomputable def spec_ProbeOk_E (A : PM.Prims) (c_94 : spec_l1In_T) (c_95 : spec_l3Val_T) (c_93 : spec_l3Cell_T) : PM.Env := ⟨[(94, ⟨[], spec_l1In_w c_94, none⟩), (95, ⟨[], spec_l3Val_w c_95, none⟩), (93, ⟨[], spec_l3Cell_w c_93, none⟩)], [], [], [(0, [1]), (1, [2])], spec_ProbeOk_L A c_94 c_95 c_93 A.fuel⟩
theorem spec_ProbeOk_ok (A : PM.Prims) (c_94 : spec_l1In_T) (c_95 : spec_l3Val_T) (c_93 : spec_l3Cell_T) (p_Cell : Int) (p_Phase : Int) (p_Ver : Int) (p_Val : Int) (k : PM.V → PM.R) : PM.pfun A cx [] (spec_ProbeOk_E A c_94 c_95 c_93) Go.Proofs.Try.f22 [.agg [.int .i64 p_Cell, .int .i64 p_Phase, .int .i64 p_Ver, .int .i64 p_Val]] k = spec_ProbeOk_f A c_94 c_95 c_93 p_Cell p_Phase p_Ver p_Val (fun r0 => k (.bool r0)) := by kernel_rfl

theorem spec_ProbeOk_fn : PM.FnIs Try.prog 22 Try.f22 := .of Try.func22 (by kernel_rfl) (by kernel_rfl)
theorem spec_ProbeOk_g : PM.GOk Try.prog cx 22 ⟨[], spec_ProbeOk_w (spec_ProbeOk PM.std), none⟩ := by
  refine ⟨spec_ProbeOk_fn.enter, fun _ ds k r h => ?_, fun hm => absurd rfl hm, fun _ e => (by cases e)⟩
  change spec_ProbeOk_w (spec_ProbeOk PM.std) ds k = some r at h
  unfold spec_ProbeOk_w at h
  split at h
  · exact PM.pfun_ok (E := spec_ProbeOk_E PM.std (spec_l1In PM.std) (spec_l3Val PM.std) (spec_l3Cell PM.std)) (L := fun n => spec_ProbeOk_L PM.std (spec_l1In PM.std) (spec_l3Val PM.std) (spec_l3Cell PM.std) n) (N := PM.std.fuel) cx_ok (.cons spec_l1In_g (.cons spec_l3Val_g (.cons spec_l3Cell_g .nil))) mixed .nil spec_ProbeOk_fn (by kernel_rfl) ⟨rfl, fun _ _ _ => rfl, fun n cur σ K r h => by cases h⟩
      ((spec_ProbeOk_ok PM.std (spec_l1In PM.std) (spec_l3Val PM.std) (spec_l3Cell PM.std) _ _ _ _ k).trans h)
  · cases h

abbrev impl_within_T := (Int) → (Int) → (Int) → ((Bool) → PM.R) → PM.R
noncomputable def impl_within_w (c : impl_within_T) (ds : List PM.V) (k : PM.V → PM.R) : PM.R :=
  match ds with
  | [.int .i64 x, .int .i64 lo, .int .i64 hi] => c x lo hi (fun r0 => k (.bool r0))
  | _ => none
noncomputable def impl_within_f (A : PM.Prims) (x : Int) (lo : Int) (hi : Int) (k : (Bool) → PM.R) : PM.R :=
  bif (A.le lo x) then
    k (A.le x hi)
  else
    k false
noncomputable def impl_within (A : PM.Prims) : impl_within_T := impl_within_f A
noncomputable def impl_within_L (A : PM.Prims) (n : Nat) : PM.Lam := fun cur σ K =>
  match cur, σ, K with
  | _, _, _ => none
noncomputable def impl_within_E (A : PM.Prims) : PM.Env := ⟨[], [], [], [(0, [0, 1, 2]), (1, [6])], impl_within_L A A.fuel⟩
theorem impl_within_ok (A : PM.Prims) (x : Int) (lo : Int) (hi : Int) (k : PM.V → PM.R) : PM.pfun A cx [] (impl_within_E A) Go.Proofs.Try.f97 [.int .i64 x, .int .i64 lo, .int .i64 hi] k = impl_within_f A x lo hi (fun r0 => k (.bool r0)) := by kernel_rfl

theorem impl_within_fn : PM.FnIs Try.prog 97 Try.f97 := .of Try.func97 (by kernel_rfl) (by kernel_rfl)
theorem impl_within_g : PM.GOk Try.prog cx 97 ⟨[], impl_within_w (impl_within PM.std), none⟩ := by
  refine ⟨impl_within_fn.enter, fun _ ds k r h => ?_, fun hm => absurd rfl hm, fun _ e => (by cases e)⟩
  change impl_within_w (impl_within PM.std) ds k = some r at h
  unfold impl_within_w at h
  split at h
  · exact PM.pfun_ok (E := impl_within_E PM.std) (L := fun n => impl_within_L PM.std n) (N := PM.std.fuel) cx_ok .nil mixed .nil impl_within_fn (by kernel_rfl) ⟨rfl, fun _ _ _ => rfl, fun n cur σ K r h => by cases h⟩
      ((impl_within_ok PM.std _ _ _ k).trans h)
  · cases h

abbrev impl_isCell_T := (Int) → ((Bool) → PM.R) → PM.R
noncomputable def impl_isCell_w (c : impl_isCell_T) (ds : List PM.V) (k : PM.V → PM.R) : PM.R :=
  match ds with
  | [.int .i64 i] => c i (fun r0 => k (.bool r0))
  | _ => none
noncomputable def impl_isCell_f (A : PM.Prims) (c_97 : impl_within_T) (i : Int) (k : (Bool) → PM.R) : PM.R :=
  c_97 i 0 7 (fun r1 =>
    k r1)
noncomputable def impl_isCell (A : PM.Prims) : impl_isCell_T := impl_isCell_f A (impl_within A)
noncomputable def impl_isCell_L (A : PM.Prims) (c_97 : impl_within_T) (n : Nat) : PM.Lam := fun cur σ K =>
  match cur, σ, K with
  | _, _, _ => none
noncomputable def impl_isCell_E (A : PM.Prims) (c_97 : impl_within_T) : PM.Env := ⟨[(97, ⟨[], impl_within_w c_97, none⟩)], [], [], [(0, [0]), (1, [2])], impl_isCell_L A c_97 A.fuel⟩
theorem impl_isCell_ok (A : PM.Prims) (c_97 : impl_within_T) (i : Int) (k : PM.V → PM.R) : PM.pfun A cx [] (impl_isCell_E A c_97) Go.Proofs.Try.f96 [.int .i64 i] k = impl_isCell_f A c_97 i (fun r0 => k (.bool r0)) := by kernel_rfl

theorem impl_isCell_fn : PM.FnIs Try.prog 96 Try.f96 := .of Try.func96 (by kernel_rfl) (by kernel_rfl)
theorem impl_isCell_g : PM.GOk Try.prog cx 96 ⟨[], impl_isCell_w (impl_isCell PM.std), none⟩ := by
  refine ⟨impl_isCell_fn.enter, fun _ ds k r h => ?_, fun hm => absurd rfl hm, fun _ e => (by cases e)⟩
  change impl_isCell_w (impl_isCell PM.std) ds k = some r at h
  unfold impl_isCell_w at h
  split at h
  · exact PM.pfun_ok (E := impl_isCell_E PM.std (impl_within PM.std)) (L := fun n => impl_isCell_L PM.std (impl_within PM.std) n) (N := PM.std.fuel) cx_ok (.cons impl_within_g .nil) mixed .nil impl_isCell_fn (by kernel_rfl) ⟨rfl, fun _ _ _ => rfl, fun n cur σ K r h => by cases h⟩
      ((impl_isCell_ok PM.std (impl_within PM.std) _ k).trans h)
  · cases h

abbrev impl_isValue_T := (Int) → ((Bool) → PM.R) → PM.R
noncomputable def impl_isValue_w (c : impl_isValue_T) (ds : List PM.V) (k : PM.V → PM.R) : PM.R :=
  match ds with
  | [.int .i64 v] => c v (fun r0 => k (.bool r0))
  | _ => none
noncomputable def impl_isValue_f (A : PM.Prims) (c_97 : impl_within_T) (v : Int) (k : (Bool) → PM.R) : PM.R :=
  c_97 v 0 65535 (fun r1 =>
    k r1)
noncomputable def impl_isValue (A : PM.Prims) : impl_isValue_T := impl_isValue_f A (impl_within A)
noncomputable def impl_isValue_L (A : PM.Prims) (c_97 : impl_within_T) (n : Nat) : PM.Lam := fun cur σ K =>
  match cur, σ, K with
  | _, _, _ => none
noncomputable def impl_isValue_E (A : PM.Prims) (c_97 : impl_within_T) : PM.Env := ⟨[(97, ⟨[], impl_within_w c_97, none⟩)], [], [], [(0, [0]), (1, [2])], impl_isValue_L A c_97 A.fuel⟩
theorem impl_isValue_ok (A : PM.Prims) (c_97 : impl_within_T) (v : Int) (k : PM.V → PM.R) : PM.pfun A cx [] (impl_isValue_E A c_97) Go.Proofs.Try.f98 [.int .i64 v] k = impl_isValue_f A c_97 v (fun r0 => k (.bool r0)) := by kernel_rfl

theorem impl_isValue_fn : PM.FnIs Try.prog 98 Try.f98 := .of Try.func98 (by kernel_rfl) (by kernel_rfl)
theorem impl_isValue_g : PM.GOk Try.prog cx 98 ⟨[], impl_isValue_w (impl_isValue PM.std), none⟩ := by
  refine ⟨impl_isValue_fn.enter, fun _ ds k r h => ?_, fun hm => absurd rfl hm, fun _ e => (by cases e)⟩
  change impl_isValue_w (impl_isValue PM.std) ds k = some r at h
  unfold impl_isValue_w at h
  split at h
  · exact PM.pfun_ok (E := impl_isValue_E PM.std (impl_within PM.std)) (L := fun n => impl_isValue_L PM.std (impl_within PM.std) n) (N := PM.std.fuel) cx_ok (.cons impl_within_g .nil) mixed .nil impl_isValue_fn (by kernel_rfl) ⟨rfl, fun _ _ _ => rfl, fun n cur σ K r h => by cases h⟩
      ((impl_isValue_ok PM.std (impl_within PM.std) _ k).trans h)
  · cases h

abbrev impl_ProbeOk_T := (Int) → (Int) → (Int) → (Int) → ((Bool) → PM.R) → PM.R
noncomputable def impl_ProbeOk_w (c : impl_ProbeOk_T) (ds : List PM.V) (k : PM.V → PM.R) : PM.R :=
  match ds with
  | [.agg [.int .i64 p_Cell, .int .i64 p_Phase, .int .i64 p_Ver, .int .i64 p_Val]] => c p_Cell p_Phase p_Ver p_Val (fun r0 => k (.bool r0))
  | _ => none
noncomputable def impl_ProbeOk_f (A : PM.Prims) (c_97 : impl_within_T) (c_98 : impl_isValue_T) (c_96 : impl_isCell_T) (p_Cell : Int) (p_Phase : Int) (p_Ver : Int) (p_Val : Int) (k : (Bool) → PM.R) : PM.R :=
  c_96 p_Cell (fun r1 =>
    bif r1 then
      c_97 p_Phase 0 4 (fun r2 =>
        bif r2 then
          c_97 p_Ver 0 1000000 (fun r3 =>
            bif r3 then
              c_98 p_Val (fun r4 =>
                k r4)
            else
              k false)
        else
          k false)
    else
      k false)
noncomputable def impl_ProbeOk (A : PM.Prims) : impl_ProbeOk_T := impl_ProbeOk_f A (impl_within A) (impl_isValue A) (impl_isCell A)
noncomputable def impl_ProbeOk_L (A : PM.Prims) (c_97 : impl_within_T) (c_98 : impl_isValue_T) (c_96 : impl_isCell_T) (n : Nat) : PM.Lam := fun cur σ K =>
  match cur, σ, K with
  | _, _, _ => none
noncomputable def impl_ProbeOk_E (A : PM.Prims) (c_97 : impl_within_T) (c_98 : impl_isValue_T) (c_96 : impl_isCell_T) : PM.Env := ⟨[(97, ⟨[], impl_within_w c_97, none⟩), (98, ⟨[], impl_isValue_w c_98, none⟩), (96, ⟨[], impl_isCell_w c_96, none⟩)], [], [], [(0, [1]), (1, [2])], impl_ProbeOk_L A c_97 c_98 c_96 A.fuel⟩
theorem impl_ProbeOk_ok (A : PM.Prims) (c_97 : impl_within_T) (c_98 : impl_isValue_T) (c_96 : impl_isCell_T) (p_Cell : Int) (p_Phase : Int) (p_Ver : Int) (p_Val : Int) (k : PM.V → PM.R) : PM.pfun A cx [] (impl_ProbeOk_E A c_97 c_98 c_96) Go.Proofs.Try.f24 [.agg [.int .i64 p_Cell, .int .i64 p_Phase, .int .i64 p_Ver, .int .i64 p_Val]] k = impl_ProbeOk_f A c_97 c_98 c_96 p_Cell p_Phase p_Ver p_Val (fun r0 => k (.bool r0)) := by kernel_rfl

theorem impl_ProbeOk_fn : PM.FnIs Try.prog 24 Try.f24 := .of Try.func24 (by kernel_rfl) (by kernel_rfl)
theorem impl_ProbeOk_g : PM.GOk Try.prog cx 24 ⟨[], impl_ProbeOk_w (impl_ProbeOk PM.std), none⟩ := by
  refine ⟨impl_ProbeOk_fn.enter, fun _ ds k r h => ?_, fun hm => absurd rfl hm, fun _ e => (by cases e)⟩
  change impl_ProbeOk_w (impl_ProbeOk PM.std) ds k = some r at h
  unfold impl_ProbeOk_w at h
  split at h
  · exact PM.pfun_ok (E := impl_ProbeOk_E PM.std (impl_within PM.std) (impl_isValue PM.std) (impl_isCell PM.std)) (L := fun n => impl_ProbeOk_L PM.std (impl_within PM.std) (impl_isValue PM.std) (impl_isCell PM.std) n) (N := PM.std.fuel) cx_ok (.cons impl_within_g (.cons impl_isValue_g (.cons impl_isCell_g .nil))) mixed .nil impl_ProbeOk_fn (by kernel_rfl) ⟨rfl, fun _ _ _ => rfl, fun n cur σ K r h => by cases h⟩
      ((impl_ProbeOk_ok PM.std (impl_within PM.std) (impl_isValue PM.std) (impl_isCell PM.std) _ _ _ _ k).trans h)
  · cases h

abbrev laws_FnExactProbeOk_T := (Int) → (Int) → (Int) → (Int) → ((Bool) → PM.R) → PM.R
noncomputable def laws_FnExactProbeOk_w (c : laws_FnExactProbeOk_T) (ds : List PM.V) (k : PM.V → PM.R) : PM.R :=
  match ds with
  | [.agg [.int .i64 aP_Cell, .int .i64 aP_Phase, .int .i64 aP_Ver, .int .i64 aP_Val]] => c aP_Cell aP_Phase aP_Ver aP_Val (fun r0 => k (.bool r0))
  | _ => none
noncomputable def laws_FnExactProbeOk_f (A : PM.Prims) (c_23 : laws_toProbe_T) (c_22 : spec_ProbeOk_T) (c_24 : impl_ProbeOk_T) (aP_Cell : Int) (aP_Phase : Int) (aP_Ver : Int) (aP_Val : Int) (k : (Bool) → PM.R) : PM.R :=
  c_23 aP_Cell aP_Phase aP_Ver aP_Val (fun r1 r2 r3 r4 =>
    c_22 r1 r2 r3 r4 (fun r5 =>
      c_23 aP_Cell aP_Phase aP_Ver aP_Val (fun r6 r7 r8 r9 =>
        c_24 r6 r7 r8 r9 (fun r10 =>
          bif (A.not (A.beq r10 r5)) then
            k false
          else
            k true))))
noncomputable def laws_FnExactProbeOk (A : PM.Prims) : laws_FnExactProbeOk_T := laws_FnExactProbeOk_f A (laws_toProbe A) (spec_ProbeOk A) (impl_ProbeOk A)
noncomputable def laws_FnExactProbeOk_L (A : PM.Prims) (c_23 : laws_toProbe_T) (c_22 : spec_ProbeOk_T) (c_24 : impl_ProbeOk_T) (n : Nat) : PM.Lam := fun cur σ K =>
  match cur, σ, K with
  | _, _, _ => none
noncomputable def laws_FnExactProbeOk_E (A : PM.Prims) (c_23 : laws_toProbe_T) (c_22 : spec_ProbeOk_T) (c_24 : impl_ProbeOk_T) : PM.Env := ⟨[(23, ⟨[], laws_toProbe_w c_23, none⟩), (22, ⟨[], spec_ProbeOk_w c_22, none⟩), (24, ⟨[], impl_ProbeOk_w c_24, none⟩)], [], [], [(0, [1]), (1, [1, 3]), (2, [3, 4]), (3, [13]), (4, [2]), (5, [2])], laws_FnExactProbeOk_L A c_23 c_22 c_24 A.fuel⟩
theorem laws_FnExactProbeOk_ok (A : PM.Prims) (c_23 : laws_toProbe_T) (c_22 : spec_ProbeOk_T) (c_24 : impl_ProbeOk_T) (aP_Cell : Int) (aP_Phase : Int) (aP_Ver : Int) (aP_Val : Int) (k : PM.V → PM.R) : PM.pfun A cx [] (laws_FnExactProbeOk_E A c_23 c_22 c_24) Go.Proofs.Try.f3 [.agg [.int .i64 aP_Cell, .int .i64 aP_Phase, .int .i64 aP_Ver, .int .i64 aP_Val]] k = laws_FnExactProbeOk_f A c_23 c_22 c_24 aP_Cell aP_Phase aP_Ver aP_Val (fun r0 => k (.bool r0)) := by kernel_rfl

theorem laws_FnExactProbeOk_fn : PM.FnIs Try.prog 3 Try.f3 := .of Try.func3 (by kernel_rfl) (by kernel_rfl)
theorem laws_FnExactProbeOk_g : PM.GOk Try.prog cx 3 ⟨[], laws_FnExactProbeOk_w (laws_FnExactProbeOk PM.std), none⟩ := by
  refine ⟨laws_FnExactProbeOk_fn.enter, fun _ ds k r h => ?_, fun hm => absurd rfl hm, fun _ e => (by cases e)⟩
  change laws_FnExactProbeOk_w (laws_FnExactProbeOk PM.std) ds k = some r at h
  unfold laws_FnExactProbeOk_w at h
  split at h
  · exact PM.pfun_ok (E := laws_FnExactProbeOk_E PM.std (laws_toProbe PM.std) (spec_ProbeOk PM.std) (impl_ProbeOk PM.std)) (L := fun n => laws_FnExactProbeOk_L PM.std (laws_toProbe PM.std) (spec_ProbeOk PM.std) (impl_ProbeOk PM.std) n) (N := PM.std.fuel) cx_ok (.cons laws_toProbe_g (.cons spec_ProbeOk_g (.cons impl_ProbeOk_g .nil))) mixed .nil laws_FnExactProbeOk_fn (by kernel_rfl) ⟨rfl, fun _ _ _ => rfl, fun n cur σ K r h => by cases h⟩
      ((laws_FnExactProbeOk_ok PM.std (laws_toProbe PM.std) (spec_ProbeOk PM.std) (impl_ProbeOk PM.std) _ _ _ _ k).trans h)
  · cases h

abbrev spec_ProbeNew_T := (Int) → ((Int) → (Int) → (Int) → (Int) → (Bool) → PM.R) → PM.R
noncomputable def spec_ProbeNew_w (c : spec_ProbeNew_T) (ds : List PM.V) (k : PM.V → PM.R) : PM.R :=
  match ds with
  | [.int .i64 cell] => c cell (fun r0_Cell r0_Phase r0_Ver r0_Val r1 => k (.tup [.agg [.int .i64 r0_Cell, .int .i64 r0_Phase, .int .i64 r0_Ver, .int .i64 r0_Val], .bool r1]))
  | _ => none
noncomputable def spec_ProbeNew_f (A : PM.Prims) (c_93 : spec_l3Cell_T) (cell : Int) (k : (Int) → (Int) → (Int) → (Int) → (Bool) → PM.R) : PM.R :=
  c_93 cell (fun r1 =>
    bif (A.not r1) then
      k 0 0 0 0 false
    else
      k cell 0 0 0 true)
noncomputable def spec_ProbeNew (A : PM.Prims) : spec_ProbeNew_T := spec_ProbeNew_f A (spec_l3Cell A)
noncomputable def spec_ProbeNew_L (A : PM.Prims) (c_93 : spec_l3Cell_T) (n : Nat) : PM.Lam := fun cur σ K =>
  match cur, σ, K with
  | _, _, _ => none
noncomputable def spec_ProbeNew_E (A : PM.Prims) (c_93 : spec_l3Cell_T) : PM.Env := ⟨[(93, ⟨[], spec_l3Cell_w c_93, none⟩)], [], [], [(0, [0, 2]), (1, [0, 2, 6]), (2, [2, 3]), (3, [2, 3])], spec_ProbeNew_L A c_93 A.fuel⟩
theorem spec_ProbeNew_ok (A : PM.Prims) (c_93 : spec_l3Cell_T) (cell : Int) (k : PM.V → PM.R) : PM.pfun A cx [] (spec_ProbeNew_E A c_93) Go.Proofs.Try.f25 [.int .i64 cell] k = spec_ProbeNew_f A c_93 cell (fun r0_Cell r0_Phase r0_Ver r0_Val r1 => k (.tup [.agg [.int .i64 r0_Cell, .int .i64 r0_Phase, .int .i64 r0_Ver, .int .i64 r0_Val], .bool r1])) := by kernel_rfl

theorem spec_ProbeNew_fn : PM.FnIs Try.prog 25 Try.f25 := .of Try.func25 (by kernel_rfl) (by kernel_rfl)
theorem spec_ProbeNew_g : PM.GOk Try.prog cx 25 ⟨[], spec_ProbeNew_w (spec_ProbeNew PM.std), none⟩ := by
  refine ⟨spec_ProbeNew_fn.enter, fun _ ds k r h => ?_, fun hm => absurd rfl hm, fun _ e => (by cases e)⟩
  change spec_ProbeNew_w (spec_ProbeNew PM.std) ds k = some r at h
  unfold spec_ProbeNew_w at h
  split at h
  · exact PM.pfun_ok (E := spec_ProbeNew_E PM.std (spec_l3Cell PM.std)) (L := fun n => spec_ProbeNew_L PM.std (spec_l3Cell PM.std) n) (N := PM.std.fuel) cx_ok (.cons spec_l3Cell_g .nil) mixed .nil spec_ProbeNew_fn (by kernel_rfl) ⟨rfl, fun _ _ _ => rfl, fun n cur σ K r h => by cases h⟩
      ((spec_ProbeNew_ok PM.std (spec_l3Cell PM.std) _ k).trans h)
  · cases h

abbrev impl_ProbeNew_T := (Int) → ((Int) → (Int) → (Int) → (Int) → (Bool) → PM.R) → PM.R
noncomputable def impl_ProbeNew_w (c : impl_ProbeNew_T) (ds : List PM.V) (k : PM.V → PM.R) : PM.R :=
  match ds with
  | [.int .i64 cell] => c cell (fun r0_Cell r0_Phase r0_Ver r0_Val r1 => k (.tup [.agg [.int .i64 r0_Cell, .int .i64 r0_Phase, .int .i64 r0_Ver, .int .i64 r0_Val], .bool r1]))
  | _ => none
noncomputable def impl_ProbeNew_f (A : PM.Prims) (c_96 : impl_isCell_T) (cell : Int) (k : (Int) → (Int) → (Int) → (Int) → (Bool) → PM.R) : PM.R :=
  c_96 cell (fun r1 =>
    bif (A.not r1) then
      k 0 0 0 0 false
    else
      k cell 0 0 0 true)
noncomputable def impl_ProbeNew (A : PM.Prims) : impl_ProbeNew_T := impl_ProbeNew_f A (impl_isCell A)
noncomputable def impl_ProbeNew_L (A : PM.Prims) (c_96 : impl_isCell_T) (n : Nat) : PM.Lam := fun cur σ K =>
  match cur, σ, K with
  | _, _, _ => none
noncomputable def impl_ProbeNew_E (A : PM.Prims) (c_96 : impl_isCell_T) : PM.Env := ⟨[(96, ⟨[], impl_isCell_w c_96, none⟩)], [], [], [(0, [0, 2]), (1, [0, 2, 6]), (2, [2, 3]), (3, [2, 3])], impl_ProbeNew_L A c_96 A.fuel⟩
theorem impl_ProbeNew_ok (A : PM.Prims) (c_96 : impl_isCell_T) (cell : Int) (k : PM.V → PM.R) : PM.pfun A cx [] (impl_ProbeNew_E A c_96) Go.Proofs.Try.f26 [.int .i64 cell] k = impl_ProbeNew_f A c_96 cell (fun r0_Cell r0_Phase r0_Ver r0_Val r1 => k (.tup [.agg [.int .i64 r0_Cell, .int .i64 r0_Phase, .int .i64 r0_Ver, .int .i64 r0_Val], .bool r1])) := by kernel_rfl

theorem impl_ProbeNew_fn : PM.FnIs Try.prog 26 Try.f26 := .of Try.func26 (by kernel_rfl) (by kernel_rfl)
theorem impl_ProbeNew_g : PM.GOk Try.prog cx 26 ⟨[], impl_ProbeNew_w (impl_ProbeNew PM.std), none⟩ := by
  refine ⟨impl_ProbeNew_fn.enter, fun _ ds k r h => ?_, fun hm => absurd rfl hm, fun _ e => (by cases e)⟩
  change impl_ProbeNew_w (impl_ProbeNew PM.std) ds k = some r at h
  unfold impl_ProbeNew_w at h
  split at h
  · exact PM.pfun_ok (E := impl_ProbeNew_E PM.std (impl_isCell PM.std)) (L := fun n => impl_ProbeNew_L PM.std (impl_isCell PM.std) n) (N := PM.std.fuel) cx_ok (.cons impl_isCell_g .nil) mixed .nil impl_ProbeNew_fn (by kernel_rfl) ⟨rfl, fun _ _ _ => rfl, fun n cur σ K r h => by cases h⟩
      ((impl_ProbeNew_ok PM.std (impl_isCell PM.std) _ k).trans h)
  · cases h

abbrev laws_eqProbe_T := (Int) → (Int) → (Int) → (Int) → (Int) → (Int) → (Int) → (Int) → ((Bool) → PM.R) → PM.R
noncomputable def laws_eqProbe_w (c : laws_eqProbe_T) (ds : List PM.V) (k : PM.V → PM.R) : PM.R :=
  match ds with
  | [.agg [.int .i64 a_Cell, .int .i64 a_Phase, .int .i64 a_Ver, .int .i64 a_Val], .agg [.int .i64 b_Cell, .int .i64 b_Phase, .int .i64 b_Ver, .int .i64 b_Val]] => c a_Cell a_Phase a_Ver a_Val b_Cell b_Phase b_Ver b_Val (fun r0 => k (.bool r0))
  | _ => none
noncomputable def laws_eqProbe_f (A : PM.Prims) (a_Cell : Int) (a_Phase : Int) (a_Ver : Int) (a_Val : Int) (b_Cell : Int) (b_Phase : Int) (b_Ver : Int) (b_Val : Int) (k : (Bool) → PM.R) : PM.R :=
  bif (A.not (A.eq a_Cell b_Cell)) then
    k false
  else
    bif (A.not (A.eq a_Phase b_Phase)) then
      k false
    else
      bif (A.not (A.eq a_Ver b_Ver)) then
        k false
      else
        bif (A.not (A.eq a_Val b_Val)) then
          k false
        else
          k true
noncomputable def laws_eqProbe (A : PM.Prims) : laws_eqProbe_T := laws_eqProbe_f A
noncomputable def laws_eqProbe_L (A : PM.Prims) (n : Nat) : PM.Lam := fun cur σ K =>
  match cur, σ, K with
  | _, _, _ => none
noncomputable def laws_eqProbe_E (A : PM.Prims) : PM.Env := ⟨[], [], [], [(0, [2, 3]), (1, [2, 3, 9]), (2, [4]), (3, [2, 3, 14]), (4, [4]), (5, [2, 3, 19]), (6, [4]), (7, [24]), (8, [4]), (9, [4])], laws_eqProbe_L A A.fuel⟩
theorem laws_eqProbe_ok (A : PM.Prims) (a_Cell : Int) (a_Phase : Int) (a_Ver : Int) (a_Val : Int) (b_Cell : Int) (b_Phase : Int) (b_Ver : Int) (b_Val : Int) (k : PM.V → PM.R) : PM.pfun A cx [] (laws_eqProbe_E A) Go.Proofs.Try.f27 [.agg [.int .i64 a_Cell, .int .i64 a_Phase, .int .i64 a_Ver, .int .i64 a_Val], .agg [.int .i64 b_Cell, .int .i64 b_Phase, .int .i64 b_Ver, .int .i64 b_Val]] k = laws_eqProbe_f A a_Cell a_Phase a_Ver a_Val b_Cell b_Phase b_Ver b_Val (fun r0 => k (.bool r0)) := by kernel_rfl

theorem laws_eqProbe_fn : PM.FnIs Try.prog 27 Try.f27 := .of Try.func27 (by kernel_rfl) (by kernel_rfl)
theorem laws_eqProbe_g : PM.GOk Try.prog cx 27 ⟨[], laws_eqProbe_w (laws_eqProbe PM.std), none⟩ := by
  refine ⟨laws_eqProbe_fn.enter, fun _ ds k r h => ?_, fun hm => absurd rfl hm, fun _ e => (by cases e)⟩
  change laws_eqProbe_w (laws_eqProbe PM.std) ds k = some r at h
  unfold laws_eqProbe_w at h
  split at h
  · exact PM.pfun_ok (E := laws_eqProbe_E PM.std) (L := fun n => laws_eqProbe_L PM.std n) (N := PM.std.fuel) cx_ok .nil mixed .nil laws_eqProbe_fn (by kernel_rfl) ⟨rfl, fun _ _ _ => rfl, fun n cur σ K r h => by cases h⟩
      ((laws_eqProbe_ok PM.std _ _ _ _ _ _ _ _ k).trans h)
  · cases h

abbrev laws_FnExactProbeNew_T := (Int) → ((Bool) → PM.R) → PM.R
noncomputable def laws_FnExactProbeNew_w (c : laws_FnExactProbeNew_T) (ds : List PM.V) (k : PM.V → PM.R) : PM.R :=
  match ds with
  | [.int .i64 aCell] => c aCell (fun r0 => k (.bool r0))
  | _ => none
noncomputable def laws_FnExactProbeNew_f (A : PM.Prims) (c_27 : laws_eqProbe_T) (c_25 : spec_ProbeNew_T) (c_26 : impl_ProbeNew_T) (aCell : Int) (k : (Bool) → PM.R) : PM.R :=
  c_25 aCell (fun r1 r2 r3 r4 r5 =>
    c_26 aCell (fun r6 r7 r8 r9 r10 =>
      c_27 r6 r7 r8 r9 r1 r2 r3 r4 (fun r11 =>
        bif (A.not r11) then
          k false
        else
          bif (A.not (A.beq r10 r5)) then
            k false
          else
            k true)))
noncomputable def laws_FnExactProbeNew (A : PM.Prims) : laws_FnExactProbeNew_T := laws_FnExactProbeNew_f A (laws_eqProbe A) (spec_ProbeNew A) (impl_ProbeNew A)
noncomputable def laws_FnExactProbeNew_L (A : PM.Prims) (c_27 : laws_eqProbe_T) (c_25 : spec_ProbeNew_T) (c_26 : impl_ProbeNew_T) (n : Nat) : PM.Lam := fun cur σ K =>
  match cur, σ, K with
  | _, _, _ => none
noncomputable def laws_FnExactProbeNew_E (A : PM.Prims) (c_27 : laws_eqProbe_T) (c_25 : spec_ProbeNew_T) (c_26 : impl_ProbeNew_T) : PM.Env := ⟨[(27, ⟨[], laws_eqProbe_w c_27, none⟩), (25, ⟨[], spec_ProbeNew_w c_25, none⟩), (26, ⟨[], impl_ProbeNew_w c_26, none⟩)], [], [], [(0, [0]), (1, [0, 3, 4]), (2, [3, 4, 5, 6]), (3, [25]), (4, [2]), (5, [2])], laws_FnExactProbeNew_L A c_27 c_25 c_26 A.fuel⟩
theorem laws_FnExactProbeNew_ok (A : PM.Prims) (c_27 : laws_eqProbe_T) (c_25 : spec_ProbeNew_T) (c_26 : impl_ProbeNew_T) (aCell : Int) (k : PM.V → PM.R) : PM.pfun A cx [] (laws_FnExactProbeNew_E A c_27 c_25 c_26) Go.Proofs.Try.f4 [.int .i64 aCell] k = laws_FnExactProbeNew_f A c_27 c_25 c_26 aCell (fun r0 => k (.bool r0)) := by kernel_rfl

theorem laws_FnExactProbeNew_fn : PM.FnIs Try.prog 4 Try.f4 := .of Try.func4 (by kernel_rfl) (by kernel_rfl)
theorem laws_FnExactProbeNew_g : PM.GOk Try.prog cx 4 ⟨[], laws_FnExactProbeNew_w (laws_FnExactProbeNew PM.std), none⟩ := by
  refine ⟨laws_FnExactProbeNew_fn.enter, fun _ ds k r h => ?_, fun hm => absurd rfl hm, fun _ e => (by cases e)⟩
  change laws_FnExactProbeNew_w (laws_FnExactProbeNew PM.std) ds k = some r at h
  unfold laws_FnExactProbeNew_w at h
  split at h
  · exact PM.pfun_ok (E := laws_FnExactProbeNew_E PM.std (laws_eqProbe PM.std) (spec_ProbeNew PM.std) (impl_ProbeNew PM.std)) (L := fun n => laws_FnExactProbeNew_L PM.std (laws_eqProbe PM.std) (spec_ProbeNew PM.std) (impl_ProbeNew PM.std) n) (N := PM.std.fuel) cx_ok (.cons laws_eqProbe_g (.cons spec_ProbeNew_g (.cons impl_ProbeNew_g .nil))) mixed .nil laws_FnExactProbeNew_fn (by kernel_rfl) ⟨rfl, fun _ _ _ => rfl, fun n cur σ K r h => by cases h⟩
      ((laws_FnExactProbeNew_ok PM.std (laws_eqProbe PM.std) (spec_ProbeNew PM.std) (impl_ProbeNew PM.std) _ k).trans h)
  · cases h

abbrev laws_szWordS_T := (List (List Int)) → (Int) → ((Int) → PM.R) → PM.R
noncomputable def laws_szWordS_w (c : laws_szWordS_T) (ds : List PM.V) (k : PM.V → PM.R) : PM.R :=
  match ds with
  | [.arr (.vecs 155 3 a), .int .i64 left] => c a left (fun r0 => k (.int .i64 r0))
  | _ => none
noncomputable def laws_szWordS_f (A : PM.Prims) (a : List (List Int)) (left : Int) (k : (Int) → PM.R) : PM.R :=
  bif (A.lt (A.sub .i64 left (A.vlen a)) 0) then
    k (-1)
  else
    k (A.sub .i64 left (A.vlen a))
noncomputable def laws_szWordS (A : PM.Prims) : laws_szWordS_T := laws_szWordS_f A
noncomputable def laws_szWordS_L (A : PM.Prims) (n : Nat) : PM.Lam := fun cur σ K =>
  match cur, σ, K with
  | _, _, _ => none
noncomputable def laws_szWordS_E (A : PM.Prims) : PM.Env := ⟨[], [], [], [(0, [0, 1]), (1, [1]), (2, [1, 10]), (3, [4]), (4, [4])], laws_szWordS_L A A.fuel⟩
theorem laws_szWordS_ok (A : PM.Prims) (a : List (List Int)) (left : Int) (k : PM.V → PM.R) : PM.pfun A cx [] (laws_szWordS_E A) Go.Proofs.Try.f99 [.arr (.vecs 155 3 a), .int .i64 left] k = laws_szWordS_f A a left (fun r0 => k (.int .i64 r0)) := by kernel_rfl

theorem laws_szWordS_fn : PM.FnIs Try.prog 99 Try.f99 := .of Try.func99 (by kernel_rfl) (by kernel_rfl)
theorem laws_szWordS_g : PM.GOk Try.prog cx 99 ⟨[], laws_szWordS_w (laws_szWordS PM.std), none⟩ := by
  refine ⟨laws_szWordS_fn.enter, fun _ ds k r h => ?_, fun hm => absurd rfl hm, fun _ e => (by cases e)⟩
  change laws_szWordS_w (laws_szWordS PM.std) ds k = some r at h
  unfold laws_szWordS_w at h
  split at h
  · exact PM.pfun_ok (E := laws_szWordS_E PM.std) (L := fun n => laws_szWordS_L PM.std n) (N := PM.std.fuel) cx_ok .nil mixed .nil laws_szWordS_fn (by kernel_rfl) ⟨rfl, fun _ _ _ => rfl, fun n cur σ K r h => by cases h⟩
      ((laws_szWordS_ok PM.std _ _ k).trans h)
  · cases h

abbrev laws_szMem_T := (Int) → (List (List Int)) → (Int) → ((Int) → PM.R) → PM.R
noncomputable def laws_szMem_w (c : laws_szMem_T) (ds : List PM.V) (k : PM.V → PM.R) : PM.R :=
  match ds with
  | [.agg [.int .i64 a_Clock, .arr (.vecs 155 3 a_Cells)], .int .i64 left] => c a_Clock a_Cells left (fun r0 => k (.int .i64 r0))
  | _ => none
noncomputable def laws_szMem_f (A : PM.Prims) (c_99 : laws_szWordS_T) (a_Clock : Int) (a_Cells : List (List Int)) (left : Int) (k : (Int) → PM.R) : PM.R :=
  c_99 a_Cells left (fun r1 =>
    bif (A.lt r1 0) then
      k (-1)
    else
      k r1)
noncomputable def laws_szMem (A : PM.Prims) : laws_szMem_T := laws_szMem_f A (laws_szWordS A)
noncomputable def laws_szMem_L (A : PM.Prims) (c_99 : laws_szWordS_T) (n : Nat) : PM.Lam := fun cur σ K =>
  match cur, σ, K with
  | _, _, _ => none
noncomputable def laws_szMem_E (A : PM.Prims) (c_99 : laws_szWordS_T) : PM.Env := ⟨[(99, ⟨[], laws_szWordS_w c_99, none⟩)], [], [], [(0, [1, 2]), (1, [1]), (2, [1, 10]), (3, [4]), (4, [4])], laws_szMem_L A c_99 A.fuel⟩
theorem laws_szMem_ok (A : PM.Prims) (c_99 : laws_szWordS_T) (a_Clock : Int) (a_Cells : List (List Int)) (left : Int) (k : PM.V → PM.R) : PM.pfun A cx [] (laws_szMem_E A c_99) Go.Proofs.Try.f28 [.agg [.int .i64 a_Clock, .arr (.vecs 155 3 a_Cells)], .int .i64 left] k = laws_szMem_f A c_99 a_Clock a_Cells left (fun r0 => k (.int .i64 r0)) := by kernel_rfl

theorem laws_szMem_fn : PM.FnIs Try.prog 28 Try.f28 := .of Try.func28 (by kernel_rfl) (by kernel_rfl)
theorem laws_szMem_g : PM.GOk Try.prog cx 28 ⟨[], laws_szMem_w (laws_szMem PM.std), none⟩ := by
  refine ⟨laws_szMem_fn.enter, fun _ ds k r h => ?_, fun hm => absurd rfl hm, fun _ e => (by cases e)⟩
  change laws_szMem_w (laws_szMem PM.std) ds k = some r at h
  unfold laws_szMem_w at h
  split at h
  · exact PM.pfun_ok (E := laws_szMem_E PM.std (laws_szWordS PM.std)) (L := fun n => laws_szMem_L PM.std (laws_szWordS PM.std) n) (N := PM.std.fuel) cx_ok (.cons laws_szWordS_g .nil) mixed .nil laws_szMem_fn (by kernel_rfl) ⟨rfl, fun _ _ _ => rfl, fun n cur σ K r h => by cases h⟩
      ((laws_szMem_ok PM.std (laws_szWordS PM.std) _ _ _ k).trans h)
  · cases h

abbrev laws_toWord_T := (Int) → (Int) → (Int) → ((Int) → (Int) → (Int) → PM.R) → PM.R
noncomputable def laws_toWord_w (c : laws_toWord_T) (ds : List PM.V) (k : PM.V → PM.R) : PM.R :=
  match ds with
  | [.agg [.int .i64 a_Val, .int .i64 a_Ver, .int .i64 a_Owner]] => c a_Val a_Ver a_Owner (fun r0_Val r0_Ver r0_Owner => k (.agg [.int .i64 r0_Val, .int .i64 r0_Ver, .int .i64 r0_Owner]))
  | _ => none
noncomputable def laws_toWord_f (A : PM.Prims) (a_Val : Int) (a_Ver : Int) (a_Owner : Int) (k : (Int) → (Int) → (Int) → PM.R) : PM.R :=
  k a_Val a_Ver a_Owner
noncomputable def laws_toWord (A : PM.Prims) : laws_toWord_T := laws_toWord_f A
noncomputable def laws_toWord_L (A : PM.Prims) (n : Nat) : PM.Lam := fun cur σ K =>
  match cur, σ, K with
  | _, _, _ => none
noncomputable def laws_toWord_E (A : PM.Prims) : PM.Env := ⟨[], [], [], [(0, [1, 2]), (1, [1, 2, 3]), (2, [1, 2, 3]), (3, [1, 2, 3]), (4, [2, 3]), (5, [2])], laws_toWord_L A A.fuel⟩
theorem laws_toWord_ok (A : PM.Prims) (a_Val : Int) (a_Ver : Int) (a_Owner : Int) (k : PM.V → PM.R) : PM.pfun A cx [] (laws_toWord_E A) Go.Proofs.Try.f156 [.agg [.int .i64 a_Val, .int .i64 a_Ver, .int .i64 a_Owner]] k = laws_toWord_f A a_Val a_Ver a_Owner (fun r0_Val r0_Ver r0_Owner => k (.agg [.int .i64 r0_Val, .int .i64 r0_Ver, .int .i64 r0_Owner])) := by kernel_rfl

theorem laws_toWord_fn : PM.FnIs Try.prog 156 Try.f156 := .of Try.func156 (by kernel_rfl) (by kernel_rfl)
theorem laws_toWord_g : PM.GOk Try.prog cx 156 ⟨[], laws_toWord_w (laws_toWord PM.std), none⟩ := by
  refine ⟨laws_toWord_fn.enter, fun _ ds k r h => ?_, fun hm => absurd rfl hm, fun _ e => (by cases e)⟩
  change laws_toWord_w (laws_toWord PM.std) ds k = some r at h
  unfold laws_toWord_w at h
  split at h
  · exact PM.pfun_ok (E := laws_toWord_E PM.std) (L := fun n => laws_toWord_L PM.std n) (N := PM.std.fuel) cx_ok .nil mixed .nil laws_toWord_fn (by kernel_rfl) ⟨rfl, fun _ _ _ => rfl, fun n cur σ K r h => by cases h⟩
      ((laws_toWord_ok PM.std _ _ _ k).trans h)
  · cases h

abbrev laws_toWordS_T := (List (List Int)) → ((List (List Int)) → PM.R) → PM.R
noncomputable def laws_toWordS_w (c : laws_toWordS_T) (ds : List PM.V) (k : PM.V → PM.R) : PM.R :=
  match ds with
  | [.arr (.vecs 155 3 a)] => c a (fun r0 => k (.arr (.vecs 49 3 r0)))
  | _ => none
noncomputable def laws_toWordS_l0 (A : PM.Prims) (c_156 : laws_toWord_T) : Nat → (List (List Int)) → (Int) → (List (List Int)) → ((List (List Int)) → PM.R) → PM.R
  | 0, _, _, _, _ => none
  | n + 1, a1, i2, o03, kx0_0 =>
    bif (A.lt i2 (A.vlen a1)) then
      bif (A.inb i2 (A.vlen a1)) then
        c_156 (A.vget a1 i2 0) (A.vget a1 i2 1) (A.vget a1 i2 2) (fun r4 r5 r6 =>
          bif (A.inb i2 (A.vlen o03)) then
            laws_toWordS_l0 A c_156 n a1 (A.add .i64 i2 1) (A.vput o03 i2 [r4, r5, r6]) kx0_0
          else
            none)
      else
        none
    else
      kx0_0 o03
noncomputable def laws_toWordS_f (A : PM.Prims) (c_156 : laws_toWord_T) (a : List (List Int)) (k : (List (List Int)) → PM.R) : PM.R :=
  bif (A.mkOk (A.vlen a)) then
    bif (A.le (A.vlen a) (A.vlen a)) then
      bif (A.mkOk (A.vlen a)) then
        laws_toWordS_l0 A c_156 A.fuel a 0 (A.vzero 3 (A.vlen a)) (fun o078 =>
          k o078)
      else
        none
    else
      none
  else
    none
noncomputable def laws_toWordS (A : PM.Prims) : laws_toWordS_T := laws_toWordS_f A (laws_toWord A)
noncomputable def laws_toWordS_L (A : PM.Prims) (c_156 : laws_toWord_T) (n : Nat) : PM.Lam := fun cur σ K =>
  match cur, σ, K with
  | 0, ⟨[(0, .arr (.vecs 155 3 a1)), (3, .sref 0), (4, .int .i64 i2)], [(0, .arr true (.vecs 49 3 o03))]⟩, K => laws_toWordS_l0 A c_156 n a1 i2 o03 (fun o07 => K (.exit 0) ⟨[(3, .sref 0)], [(0, .arr true (.vecs 49 3 o07))]⟩)
  | _, _, _ => none
noncomputable def laws_toWordS_E (A : PM.Prims) (c_156 : laws_toWord_T) : PM.Env := ⟨[(156, ⟨[], laws_toWord_w c_156, none⟩)], [], [(0, [0, 3, 4], [2, 3])], [(0, [0]), (1, [0, 3]), (2, [0, 3, 4]), (3, [0, 3, 4, 11]), (4, [0, 3, 4]), (5, [0, 3, 4]), (6, [2])], laws_toWordS_L A c_156 A.fuel⟩
theorem laws_toWordS_l0_ok (A : PM.Prims) (c_156 : laws_toWord_T) (n : Nat) (a1 : List (List Int)) (i2 : Int) (o03 : List (List Int)) (K : Go.Exit → PM.S → PM.R) : laws_toWordS_L A c_156 (n + 1) 0 ⟨[(0, .arr (.vecs 155 3 a1)), (3, .sref 0), (4, .int .i64 i2)], [(0, .arr true (.vecs 49 3 o03))]⟩ K = PM.roundF A cx (PM.runD A cx (laws_toWordS_E A c_156).inl (laws_toWordS_E A c_156).Γ 3) (laws_toWordS_E A c_156) (laws_toWordS_L A c_156 n) 0 Go.Proofs.Try.f100 ⟨[(0, .arr (.vecs 155 3 a1)), (3, .sref 0), (4, .int .i64 i2)], [(0, .arr true (.vecs 49 3 o03))]⟩ K := by kernel_rfl
theorem laws_toWordS_ok (A : PM.Prims) (c_156 : laws_toWord_T) (a : List (List Int)) (k : PM.V → PM.R) : PM.pfun A cx [] (laws_toWordS_E A c_156) Go.Proofs.Try.f100 [.arr (.vecs 155 3 a)] k = laws_toWordS_f A c_156 a (fun r0 => k (.arr (.vecs 49 3 r0))) := by kernel_rfl

theorem laws_toWordS_fn : PM.FnIs Try.prog 100 Try.f100 := .of Try.func100 (by kernel_rfl) (by kernel_rfl)
theorem laws_toWordS_g : PM.GOk Try.prog cx 100 ⟨[], laws_toWordS_w (laws_toWordS PM.std), none⟩ := by
  refine ⟨laws_toWordS_fn.enter, fun _ ds k r h => ?_, fun hm => absurd rfl hm, fun _ e => (by cases e)⟩
  change laws_toWordS_w (laws_toWordS PM.std) ds k = some r at h
  unfold laws_toWordS_w at h
  split at h
  · exact PM.pfun_ok (E := laws_toWordS_E PM.std (laws_toWord PM.std)) (L := fun n => laws_toWordS_L PM.std (laws_toWord PM.std) n) (N := PM.std.fuel) cx_ok (.cons laws_toWord_g .nil) mixed .nil laws_toWordS_fn (by kernel_rfl) ⟨rfl, fun cur σ K => by
      dsimp only [laws_toWordS_L]
      split <;> rfl, fun n cur σ K r h => by
      dsimp only [laws_toWordS_L] at h
      split at h
      · exact (laws_toWordS_l0_ok PM.std (laws_toWord PM.std) n _ _ _ K).symm.trans h
      · cases h⟩
      ((laws_toWordS_ok PM.std (laws_toWord PM.std) _ k).trans h)
  · cases h

abbrev laws_toMem_T := (Int) → (List (List Int)) → ((Int) → (List (List Int)) → PM.R) → PM.R
noncomputable def laws_toMem_w (c : laws_toMem_T) (ds : List PM.V) (k : PM.V → PM.R) : PM.R :=
  match ds with
  | [.agg [.int .i64 a_Clock, .arr (.vecs 155 3 a_Cells)]] => c a_Clock a_Cells (fun r0_Clock r0_Cells => k (.agg [.int .i64 r0_Clock, .arr (.vecs 49 3 r0_Cells)]))
  | _ => none
noncomputable def laws_toMem_f (A : PM.Prims) (c_100 : laws_toWordS_T) (a_Clock : Int) (a_Cells : List (List Int)) (k : (Int) → (List (List Int)) → PM.R) : PM.R :=
  c_100 a_Cells (fun r1 =>
    k a_Clock r1)
noncomputable def laws_toMem (A : PM.Prims) : laws_toMem_T := laws_toMem_f A (laws_toWordS A)
noncomputable def laws_toMem_L (A : PM.Prims) (c_100 : laws_toWordS_T) (n : Nat) : PM.Lam := fun cur σ K =>
  match cur, σ, K with
  | _, _, _ => none
noncomputable def laws_toMem_E (A : PM.Prims) (c_100 : laws_toWordS_T) : PM.Env := ⟨[(100, ⟨[], laws_toWordS_w c_100, none⟩)], [], [], [(0, [1, 2]), (1, [1, 2, 3]), (2, [1, 2, 3]), (3, [2, 3]), (4, [2])], laws_toMem_L A c_100 A.fuel⟩
theorem laws_toMem_ok (A : PM.Prims) (c_100 : laws_toWordS_T) (a_Clock : Int) (a_Cells : List (List Int)) (k : PM.V → PM.R) : PM.pfun A cx [] (laws_toMem_E A c_100) Go.Proofs.Try.f30 [.agg [.int .i64 a_Clock, .arr (.vecs 155 3 a_Cells)]] k = laws_toMem_f A c_100 a_Clock a_Cells (fun r0_Clock r0_Cells => k (.agg [.int .i64 r0_Clock, .arr (.vecs 49 3 r0_Cells)])) := by kernel_rfl

theorem laws_toMem_fn : PM.FnIs Try.prog 30 Try.f30 := .of Try.func30 (by kernel_rfl) (by kernel_rfl)
theorem laws_toMem_g : PM.GOk Try.prog cx 30 ⟨[], laws_toMem_w (laws_toMem PM.std), none⟩ := by
  refine ⟨laws_toMem_fn.enter, fun _ ds k r h => ?_, fun hm => absurd rfl hm, fun _ e => (by cases e)⟩
  change laws_toMem_w (laws_toMem PM.std) ds k = some r at h
  unfold laws_toMem_w at h
  split at h
  · exact PM.pfun_ok (E := laws_toMem_E PM.std (laws_toWordS PM.std)) (L := fun n => laws_toMem_L PM.std (laws_toWordS PM.std) n) (N := PM.std.fuel) cx_ok (.cons laws_toWordS_g .nil) mixed .nil laws_toMem_fn (by kernel_rfl) ⟨rfl, fun _ _ _ => rfl, fun n cur σ K r h => by cases h⟩
      ((laws_toMem_ok PM.std (laws_toWordS PM.std) _ _ k).trans h)
  · cases h

abbrev spec_MemOk_T := (Int) → (List (List Int)) → ((Bool) → PM.R) → PM.R
noncomputable def spec_MemOk_w (c : spec_MemOk_T) (ds : List PM.V) (k : PM.V → PM.R) : PM.R :=
  match ds with
  | [.agg [.int .i64 m_Clock, .arr (.vecs 49 3 m_Cells)]] => c m_Clock m_Cells (fun r0 => k (.bool r0))
  | _ => none
noncomputable def spec_MemOk_l0 (A : PM.Prims) (c_94 : spec_l1In_T) (c_95 : spec_l3Val_T) : Nat → (Int) → (Int) → (List (List Int)) → ((Bool) → PM.R) → (Unit → PM.R) → PM.R
  | 0, _, _, _, _, _ => none
  | n + 1, i2, o03, o04, kret_0, kx0_0 =>
    bif (A.lt i2 (A.vlen o04)) then
      bif (A.inb i2 (A.vlen o04)) then
        c_95 (A.vget o04 i2 0) (fun r5 =>
          bif (A.not r5) then
            kret_0 false
          else
            c_94 (A.vget o04 i2 1) 0 o03 (fun r7 =>
              bif (A.not r7) then
                kret_0 false
              else
                c_94 (A.vget o04 i2 2) 0 99 (fun r8 =>
                  bif (A.not r8) then
                    kret_0 false
                  else
                    spec_MemOk_l0 A c_94 c_95 n (A.add .i64 i2 1) o03 o04 kret_0 kx0_0)))
      else
        none
    else
      kx0_0 ()
noncomputable def spec_MemOk_f (A : PM.Prims) (c_94 : spec_l1In_T) (c_95 : spec_l3Val_T) (m_Clock : Int) (m_Cells : List (List Int)) (k : (Bool) → PM.R) : PM.R :=
  bif (A.not (A.eq (A.vlen m_Cells) 8)) then
    k false
  else
    c_94 m_Clock 0 1000000 (fun r1 =>
      bif (A.not r1) then
        k false
      else
        spec_MemOk_l0 A c_94 c_95 A.fuel 0 m_Clock m_Cells (fun t269 =>
          k t269) (fun _ =>
          k true))
noncomputable def spec_MemOk (A : PM.Prims) : spec_MemOk_T := spec_MemOk_f A (spec_l1In A) (spec_l3Val A)
noncomputable def spec_MemOk_L (A : PM.Prims) (c_94 : spec_l1In_T) (c_95 : spec_l3Val_T) (n : Nat) : PM.Lam := fun cur σ K =>
  match cur, σ, K with
  | 0, ⟨[(1, .pbox 0 0), (3, .int .i64 i2)], [(0, .box [.int .i64 o03, .arr (.vecs 49 3 o04)])]⟩, K => spec_MemOk_l0 A c_94 c_95 n i2 o03 o04 (fun t26 => K .ret ⟨[(2, .bool t26)], []⟩) (fun _ => K (.exit 0) ⟨[], []⟩)
  | _, _, _ => none
noncomputable def spec_MemOk_E (A : PM.Prims) (c_94 : spec_l1In_T) (c_95 : spec_l3Val_T) : PM.Env := ⟨[(94, ⟨[], spec_l1In_w c_94, none⟩), (95, ⟨[], spec_l3Val_w c_95, none⟩)], [], [(0, [1, 3], [2])], [(0, [1]), (1, [1, 14]), (2, [2]), (3, [1, 3]), (4, [1, 3, 19]), (5, [1, 3]), (6, [1, 3, 4]), (7, [1, 3, 44]), (8, [2]), (9, [2])], spec_MemOk_L A c_94 c_95 A.fuel⟩
theorem spec_MemOk_l0_ok (A : PM.Prims) (c_94 : spec_l1In_T) (c_95 : spec_l3Val_T) (n : Nat) (i2 : Int) (o03 : Int) (o04 : List (List Int)) (K : Go.Exit → PM.S → PM.R) : spec_MemOk_L A c_94 c_95 (n + 1) 0 ⟨[(1, .pbox 0 0), (3, .int .i64 i2)], [(0, .box [.int .i64 o03, .arr (.vecs 49 3 o04)])]⟩ K = PM.roundF A cx (PM.runD A cx (spec_MemOk_E A c_94 c_95).inl (spec_MemOk_E A c_94 c_95).Γ 3) (spec_MemOk_E A c_94 c_95) (spec_MemOk_L A c_94 c_95 n) 0 Go.Proofs.Try.f35 ⟨[(1, .pbox 0 0), (3, .int .i64 i2)], [(0, .box [.int .i64 o03, .arr (.vecs 49 3 o04)])]⟩ K := by kernel_rfl
theorem spec_MemOk_ok (A : PM.Prims) (c_94 : spec_l1In_T) (c_95 : spec_l3Val_T) (m_Clock : Int) (m_Cells : List (List Int)) (k : PM.V → PM.R) : PM.pfun A cx [] (spec_MemOk_E A c_94 c_95) Go.Proofs.Try.f35 [.agg [.int .i64 m_Clock, .arr (.vecs 49 3 m_Cells)]] k = spec_MemOk_f A c_94 c_95 m_Clock m_Cells (fun r0 => k (.bool r0)) := by kernel_rfl

theorem spec_MemOk_fn : PM.FnIs Try.prog 35 Try.f35 := .of Try.func35 (by kernel_rfl) (by kernel_rfl)
theorem spec_MemOk_g : PM.GOk Try.prog cx 35 ⟨[], spec_MemOk_w (spec_MemOk PM.std), none⟩ := by
  refine ⟨spec_MemOk_fn.enter, fun _ ds k r h => ?_, fun hm => absurd rfl hm, fun _ e => (by cases e)⟩
  change spec_MemOk_w (spec_MemOk PM.std) ds k = some r at h
  unfold spec_MemOk_w at h
  split at h
  · exact PM.pfun_ok (E := spec_MemOk_E PM.std (spec_l1In PM.std) (spec_l3Val PM.std)) (L := fun n => spec_MemOk_L PM.std (spec_l1In PM.std) (spec_l3Val PM.std) n) (N := PM.std.fuel) cx_ok (.cons spec_l1In_g (.cons spec_l3Val_g .nil)) mixed .nil spec_MemOk_fn (by kernel_rfl) ⟨rfl, fun cur σ K => by
      dsimp only [spec_MemOk_L]
      split <;> rfl, fun n cur σ K r h => by
      dsimp only [spec_MemOk_L] at h
      split at h
      · exact (spec_MemOk_l0_ok PM.std (spec_l1In PM.std) (spec_l3Val PM.std) n _ _ _ K).symm.trans h
      · cases h⟩
      ((spec_MemOk_ok PM.std (spec_l1In PM.std) (spec_l3Val PM.std) _ _ k).trans h)
  · cases h

abbrev spec_ProbeStep_T := (Int) → (List (List Int)) → (Int) → (Int) → (Int) → (Int) → (Int) → ((Int) → (Int) → (Int) → (Int) → PM.R) → PM.R
noncomputable def spec_ProbeStep_w (c : spec_ProbeStep_T) (ds : List PM.V) (k : PM.V → PM.R) : PM.R :=
  match ds with
  | [.agg [.int .i64 m_Clock, .arr (.vecs 49 3 m_Cells)], .int .i64 rv, .agg [.int .i64 p_Cell, .int .i64 p_Phase, .int .i64 p_Ver, .int .i64 p_Val]] => c m_Clock m_Cells rv p_Cell p_Phase p_Ver p_Val (fun r0_Cell r0_Phase r0_Ver r0_Val => k (.agg [.int .i64 r0_Cell, .int .i64 r0_Phase, .int .i64 r0_Ver, .int .i64 r0_Val]))
  | _ => none
noncomputable def spec_ProbeStep_f (A : PM.Prims) (c_35 : spec_MemOk_T) (c_22 : spec_ProbeOk_T) (m_Clock : Int) (m_Cells : List (List Int)) (rv : Int) (p_Cell : Int) (p_Phase : Int) (p_Ver : Int) (p_Val : Int) (k : (Int) → (Int) → (Int) → (Int) → PM.R) : PM.R :=
  c_35 m_Clock m_Cells (fun r1 =>
    bif (A.not r1) then
      k p_Cell p_Phase p_Ver p_Val
    else
      c_22 p_Cell p_Phase p_Ver p_Val (fun r2 =>
        bif (A.not r2) then
          k p_Cell p_Phase p_Ver p_Val
        else
          bif (A.inb p_Cell (A.vlen m_Cells)) then
            bif (A.eq p_Phase 0) then
              bif (A.not (A.eq (A.vget m_Cells p_Cell 2) 0)) then
                k p_Cell 4 p_Ver p_Val
              else
                bif (A.lt rv (A.vget m_Cells p_Cell 1)) then
                  k p_Cell 4 p_Ver p_Val
                else
                  k p_Cell 1 (A.vget m_Cells p_Cell 1) p_Val
            else
              bif (A.eq p_Phase 1) then
                k p_Cell 2 p_Ver (A.vget m_Cells p_Cell 0)
              else
                bif (A.eq p_Phase 2) then
                  bif (A.not (A.eq (A.vget m_Cells p_Cell 2) 0)) then
                    k p_Cell 4 p_Ver p_Val
                  else
                    bif (A.not (A.eq (A.vget m_Cells p_Cell 1) p_Ver)) then
                      k p_Cell 4 p_Ver p_Val
                    else
                      k p_Cell 3 p_Ver p_Val
                else
                  k p_Cell p_Phase p_Ver p_Val
          else
            none))
noncomputable def spec_ProbeStep (A : PM.Prims) : spec_ProbeStep_T := spec_ProbeStep_f A (spec_MemOk A) (spec_ProbeOk A)
noncomputable def spec_ProbeStep_L (A : PM.Prims) (c_35 : spec_MemOk_T) (c_22 : spec_ProbeOk_T) (n : Nat) : PM.Lam := fun cur σ K =>
  match cur, σ, K with
  | _, _, _ => none
noncomputable def spec_ProbeStep_E (A : PM.Prims) (c_35 : spec_MemOk_T) (c_22 : spec_ProbeOk_T) : PM.Env := ⟨[(35, ⟨[], spec_MemOk_w c_35, none⟩), (22, ⟨[], spec_ProbeOk_w c_22, none⟩)], [], [], [(0, [1, 3, 5, 6]), (1, [1, 3, 5, 6, 15]), (2, [6]), (3, [1, 5, 6, 7]), (4, [1, 5, 6, 7, 24]), (5, [1, 5, 6, 7, 24, 25]), (6, [5, 6, 7, 35]), (7, [5, 6]), (8, [6]), (9, [5, 6]), (10, [5, 6]), (11, [5, 6, 7, 24, 42]), (12, [5, 6]), (13, [5, 6]), (14, [5, 6, 7, 48]), (15, [5, 6, 7]), (16, [5, 6, 60]), (17, [5, 6]), (18, [6])], spec_ProbeStep_L A c_35 c_22 A.fuel⟩
theorem spec_ProbeStep_ok (A : PM.Prims) (c_35 : spec_MemOk_T) (c_22 : spec_ProbeOk_T) (m_Clock : Int) (m_Cells : List (List Int)) (rv : Int) (p_Cell : Int) (p_Phase : Int) (p_Ver : Int) (p_Val : Int) (k : PM.V → PM.R) : PM.pfun A cx [] (spec_ProbeStep_E A c_35 c_22) Go.Proofs.Try.f29 [.agg [.int .i64 m_Clock, .arr (.vecs 49 3 m_Cells)], .int .i64 rv, .agg [.int .i64 p_Cell, .int .i64 p_Phase, .int .i64 p_Ver, .int .i64 p_Val]] k = spec_ProbeStep_f A c_35 c_22 m_Clock m_Cells rv p_Cell p_Phase p_Ver p_Val (fun r0_Cell r0_Phase r0_Ver r0_Val => k (.agg [.int .i64 r0_Cell, .int .i64 r0_Phase, .int .i64 r0_Ver, .int .i64 r0_Val])) := by kernel_rfl

theorem spec_ProbeStep_fn : PM.FnIs Try.prog 29 Try.f29 := .of Try.func29 (by kernel_rfl) (by kernel_rfl)
theorem spec_ProbeStep_g : PM.GOk Try.prog cx 29 ⟨[], spec_ProbeStep_w (spec_ProbeStep PM.std), none⟩ := by
  refine ⟨spec_ProbeStep_fn.enter, fun _ ds k r h => ?_, fun hm => absurd rfl hm, fun _ e => (by cases e)⟩
  change spec_ProbeStep_w (spec_ProbeStep PM.std) ds k = some r at h
  unfold spec_ProbeStep_w at h
  split at h
  · exact PM.pfun_ok (E := spec_ProbeStep_E PM.std (spec_MemOk PM.std) (spec_ProbeOk PM.std)) (L := fun n => spec_ProbeStep_L PM.std (spec_MemOk PM.std) (spec_ProbeOk PM.std) n) (N := PM.std.fuel) cx_ok (.cons spec_MemOk_g (.cons spec_ProbeOk_g .nil)) mixed .nil spec_ProbeStep_fn (by kernel_rfl) ⟨rfl, fun _ _ _ => rfl, fun n cur σ K r h => by cases h⟩
      ((spec_ProbeStep_ok PM.std (spec_MemOk PM.std) (spec_ProbeOk PM.std) _ _ _ _ _ _ _ k).trans h)
  · cases h

abbrev impl_MemOk_T := (Int) → (List (List Int)) → ((Bool) → PM.R) → PM.R
noncomputable def impl_MemOk_w (c : impl_MemOk_T) (ds : List PM.V) (k : PM.V → PM.R) : PM.R :=
  match ds with
  | [.agg [.int .i64 m_Clock, .arr (.vecs 49 3 m_Cells)]] => c m_Clock m_Cells (fun r0 => k (.bool r0))
  | _ => none
noncomputable def impl_MemOk_l0 (A : PM.Prims) (c_97 : impl_within_T) (c_98 : impl_isValue_T) : Nat → (List (List Int)) → (Int) → (Int) → (Int) → (List (List Int)) → ((Bool) → PM.R) → ((Int) → (List (List Int)) → PM.R) → PM.R
  | 0, _, _, _, _, _, _, _ => none
  | n + 1, t61, t72, t83, o04, o05, kret_0, kx0_0 =>
    bif (A.lt t83 t72) then
      bif (A.inb t83 (A.vlen t61)) then
        c_98 (A.vget t61 t83 0) (fun r6 =>
          bif (A.not r6) then
            kret_0 false
          else
            c_97 (A.vget t61 t83 1) 0 o04 (fun r8 =>
              bif (A.not r8) then
                kret_0 false
              else
                c_97 (A.vget t61 t83 2) 0 99 (fun r9 =>
                  bif (A.not r9) then
                    kret_0 false
                  else
                    impl_MemOk_l0 A c_97 c_98 n t61 t72 (A.add .i64 t83 1) o04 o05 kret_0 kx0_0)))
      else
        none
    else
      kx0_0 o04 o05
noncomputable def impl_MemOk_f (A : PM.Prims) (c_97 : impl_within_T) (c_98 : impl_isValue_T) (m_Clock : Int) (m_Cells : List (List Int)) (k : (Bool) → PM.R) : PM.R :=
  impl_MemOk_l0 A c_97 c_98 A.fuel m_Cells (A.vlen m_Cells) 0 m_Clock m_Cells (fun t2712 =>
    k t2712) (fun o01013 o01114 =>
    bif (A.eq (A.vlen o01114) 8) then
      c_97 o01013 0 1000000 (fun r15 =>
        k r15)
    else
      k false)
noncomputable def impl_MemOk (A : PM.Prims) : impl_MemOk_T := impl_MemOk_f A (impl_within A) (impl_isValue A)
noncomputable def impl_MemOk_L (A : PM.Prims) (c_97 : impl_within_T) (c_98 : impl_isValue_T) (n : Nat) : PM.Lam := fun cur σ K =>
  match cur, σ, K with
  | 0, ⟨[(1, .pbox 0 0), (6, .arr (.vecs 49 3 t61)), (7, .int .i64 t72), (8, .int .i64 t83)], [(0, .box [.int .i64 o04, .arr (.vecs 49 3 o05)])]⟩, K => impl_MemOk_l0 A c_97 c_98 n t61 t72 t83 o04 o05 (fun t27 => K .ret ⟨[(2, .bool t27)], []⟩) (fun o010 o011 => K (.exit 0) ⟨[(1, .pbox 0 0)], [(0, .box [.int .i64 o010, .arr (.vecs 49 3 o011)])]⟩)
  | _, _, _ => none
noncomputable def impl_MemOk_E (A : PM.Prims) (c_97 : impl_within_T) (c_98 : impl_isValue_T) : PM.Env := ⟨[(97, ⟨[], impl_within_w c_97, none⟩), (98, ⟨[], impl_isValue_w c_98, none⟩)], [], [(0, [1, 6, 7, 8], [1, 2])], [(0, [1]), (1, [1, 6, 7, 8]), (2, [1, 6, 7, 8, 9]), (3, [1, 4, 6, 7, 8]), (4, [1, 6, 7, 8, 29]), (5, [2]), (6, [1, 6, 7, 8]), (7, [2])], impl_MemOk_L A c_97 c_98 A.fuel⟩
theorem impl_MemOk_l0_ok (A : PM.Prims) (c_97 : impl_within_T) (c_98 : impl_isValue_T) (n : Nat) (t61 : List (List Int)) (t72 : Int) (t83 : Int) (o04 : Int) (o05 : List (List Int)) (K : Go.Exit → PM.S → PM.R) : impl_MemOk_L A c_97 c_98 (n + 1) 0 ⟨[(1, .pbox 0 0), (6, .arr (.vecs 49 3 t61)), (7, .int .i64 t72), (8, .int .i64 t83)], [(0, .box [.int .i64 o04, .arr (.vecs 49 3 o05)])]⟩ K = PM.roundF A cx (PM.runD A cx (impl_MemOk_E A c_97 c_98).inl (impl_MemOk_E A c_97 c_98).Γ 3) (impl_MemOk_E A c_97 c_98) (impl_MemOk_L A c_97 c_98 n) 0 Go.Proofs.Try.f101 ⟨[(1, .pbox 0 0), (6, .arr (.vecs 49 3 t61)), (7, .int .i64 t72), (8, .int .i64 t83)], [(0, .box [.int .i64 o04, .arr (.vecs 49 3 o05)])]⟩ K := by kernel_rfl
theorem impl_MemOk_ok (A : PM.Prims) (c_97 : impl_within_T) (c_98 : impl_isValue_T) (m_Clock : Int) (m_Cells : List (List Int)) (k : PM.V → PM.R) : PM.pfun A cx [] (impl_MemOk_E A c_97 c_98) Go.Proofs.Try.f101 [.agg [.int .i64 m_Clock, .arr (.vecs 49 3 m_Cells)]] k = impl_MemOk_f A c_97 c_98 m_Clock m_Cells (fun r0 => k (.bool r0)) := by kernel_rfl

theorem impl_MemOk_fn : PM.FnIs Try.prog 101 Try.f101 := .of Try.func101 (by kernel_rfl) (by kernel_rfl)
theorem impl_MemOk_g : PM.GOk Try.prog cx 101 ⟨[], impl_MemOk_w (impl_MemOk PM.std), none⟩ := by
  refine ⟨impl_MemOk_fn.enter, fun _ ds k r h => ?_, fun hm => absurd rfl hm, fun _ e => (by cases e)⟩
  change impl_MemOk_w (impl_MemOk PM.std) ds k = some r at h
  unfold impl_MemOk_w at h
  split at h
  · exact PM.pfun_ok (E := impl_MemOk_E PM.std (impl_within PM.std) (impl_isValue PM.std)) (L := fun n => impl_MemOk_L PM.std (impl_within PM.std) (impl_isValue PM.std) n) (N := PM.std.fuel) cx_ok (.cons impl_within_g (.cons impl_isValue_g .nil)) mixed .nil impl_MemOk_fn (by kernel_rfl) ⟨rfl, fun cur σ K => by
      dsimp only [impl_MemOk_L]
      split <;> rfl, fun n cur σ K r h => by
      dsimp only [impl_MemOk_L] at h
      split at h
      · exact (impl_MemOk_l0_ok PM.std (impl_within PM.std) (impl_isValue PM.std) n _ _ _ _ _ K).symm.trans h
      · cases h⟩
      ((impl_MemOk_ok PM.std (impl_within PM.std) (impl_isValue PM.std) _ _ k).trans h)
  · cases h

abbrev impl_ProbeStep_T := (Int) → (List (List Int)) → (Int) → (Int) → (Int) → (Int) → (Int) → ((Int) → (Int) → (Int) → (Int) → PM.R) → PM.R
noncomputable def impl_ProbeStep_w (c : impl_ProbeStep_T) (ds : List PM.V) (k : PM.V → PM.R) : PM.R :=
  match ds with
  | [.agg [.int .i64 m_Clock, .arr (.vecs 49 3 m_Cells)], .int .i64 rv, .agg [.int .i64 p_Cell, .int .i64 p_Phase, .int .i64 p_Ver, .int .i64 p_Val]] => c m_Clock m_Cells rv p_Cell p_Phase p_Ver p_Val (fun r0_Cell r0_Phase r0_Ver r0_Val => k (.agg [.int .i64 r0_Cell, .int .i64 r0_Phase, .int .i64 r0_Ver, .int .i64 r0_Val]))
  | _ => none
noncomputable def impl_ProbeStep_f (A : PM.Prims) (c_101 : impl_MemOk_T) (c_24 : impl_ProbeOk_T) (m_Clock : Int) (m_Cells : List (List Int)) (rv : Int) (p_Cell : Int) (p_Phase : Int) (p_Ver : Int) (p_Val : Int) (k : (Int) → (Int) → (Int) → (Int) → PM.R) : PM.R :=
  c_101 m_Clock m_Cells (fun r1 =>
    bif (A.not r1) then
      k p_Cell p_Phase p_Ver p_Val
    else
      c_24 p_Cell p_Phase p_Ver p_Val (fun r2 =>
        bif (A.not r2) then
          k p_Cell p_Phase p_Ver p_Val
        else
          bif (A.inb p_Cell (A.vlen m_Cells)) then
            bif (A.eq p_Phase 0) then
              bif (A.eq (A.vget m_Cells p_Cell 2) 0) then
                bif (A.le (A.vget m_Cells p_Cell 1) rv) then
                  k p_Cell 1 (A.vget m_Cells p_Cell 1) p_Val
                else
                  k p_Cell 4 p_Ver p_Val
              else
                k p_Cell 4 p_Ver p_Val
            else
              bif (A.eq p_Phase 1) then
                k p_Cell 2 p_Ver (A.vget m_Cells p_Cell 0)
              else
                bif (A.eq p_Phase 2) then
                  bif (A.eq (A.vget m_Cells p_Cell 2) 0) then
                    bif (A.eq (A.vget m_Cells p_Cell 1) p_Ver) then
                      k p_Cell 3 p_Ver p_Val
                    else
                      k p_Cell 4 p_Ver p_Val
                  else
                    k p_Cell 4 p_Ver p_Val
                else
                  k p_Cell p_Phase p_Ver p_Val
          else
            none))
noncomputable def impl_ProbeStep (A : PM.Prims) : impl_ProbeStep_T := impl_ProbeStep_f A (impl_MemOk A) (impl_ProbeOk A)
noncomputable def impl_ProbeStep_L (A : PM.Prims) (c_101 : impl_MemOk_T) (c_24 : impl_ProbeOk_T) (n : Nat) : PM.Lam := fun cur σ K =>
  match cur, σ, K with
  | _, _, _ => none
noncomputable def impl_ProbeStep_E (A : PM.Prims) (c_101 : impl_MemOk_T) (c_24 : impl_ProbeOk_T) : PM.Env := ⟨[(101, ⟨[], impl_MemOk_w c_101, none⟩), (24, ⟨[], impl_ProbeOk_w c_24, none⟩)], [], [], [(0, [1, 3, 5, 6]), (1, [1, 3, 5, 6, 15]), (2, [6]), (3, [1, 5, 6, 7]), (4, [1, 5, 6, 7, 24]), (5, [1, 5, 6, 7, 24, 25]), (6, [1, 5, 6, 7]), (7, [5, 6, 7, 36]), (8, [5, 6]), (9, [5, 6]), (10, [5, 6, 7, 24, 41]), (11, [5, 6]), (12, [5, 6]), (13, [5, 6, 7, 47]), (14, [5, 6, 7]), (15, [5, 6, 59]), (16, [5, 6]), (17, [6])], impl_ProbeStep_L A c_101 c_24 A.fuel⟩
theorem impl_ProbeStep_ok (A : PM.Prims) (c_101 : impl_MemOk_T) (c_24 : impl_ProbeOk_T) (m_Clock : Int) (m_Cells : List (List Int)) (rv : Int) (p_Cell : Int) (p_Phase : Int) (p_Ver : Int) (p_Val : Int) (k : PM.V → PM.R) : PM.pfun A cx [] (impl_ProbeStep_E A c_101 c_24) Go.Proofs.Try.f31 [.agg [.int .i64 m_Clock, .arr (.vecs 49 3 m_Cells)], .int .i64 rv, .agg [.int .i64 p_Cell, .int .i64 p_Phase, .int .i64 p_Ver, .int .i64 p_Val]] k = impl_ProbeStep_f A c_101 c_24 m_Clock m_Cells rv p_Cell p_Phase p_Ver p_Val (fun r0_Cell r0_Phase r0_Ver r0_Val => k (.agg [.int .i64 r0_Cell, .int .i64 r0_Phase, .int .i64 r0_Ver, .int .i64 r0_Val])) := by kernel_rfl

theorem impl_ProbeStep_fn : PM.FnIs Try.prog 31 Try.f31 := .of Try.func31 (by kernel_rfl) (by kernel_rfl)
theorem impl_ProbeStep_g : PM.GOk Try.prog cx 31 ⟨[], impl_ProbeStep_w (impl_ProbeStep PM.std), none⟩ := by
  refine ⟨impl_ProbeStep_fn.enter, fun _ ds k r h => ?_, fun hm => absurd rfl hm, fun _ e => (by cases e)⟩
  change impl_ProbeStep_w (impl_ProbeStep PM.std) ds k = some r at h
  unfold impl_ProbeStep_w at h
  split at h
  · exact PM.pfun_ok (E := impl_ProbeStep_E PM.std (impl_MemOk PM.std) (impl_ProbeOk PM.std)) (L := fun n => impl_ProbeStep_L PM.std (impl_MemOk PM.std) (impl_ProbeOk PM.std) n) (N := PM.std.fuel) cx_ok (.cons impl_MemOk_g (.cons impl_ProbeOk_g .nil)) mixed .nil impl_ProbeStep_fn (by kernel_rfl) ⟨rfl, fun _ _ _ => rfl, fun n cur σ K r h => by cases h⟩
      ((impl_ProbeStep_ok PM.std (impl_MemOk PM.std) (impl_ProbeOk PM.std) _ _ _ _ _ _ _ k).trans h)
  · cases h

abbrev laws_eqWord_T := (Int) → (Int) → (Int) → (Int) → (Int) → (Int) → ((Bool) → PM.R) → PM.R
noncomputable def laws_eqWord_w (c : laws_eqWord_T) (ds : List PM.V) (k : PM.V → PM.R) : PM.R :=
  match ds with
  | [.agg [.int .i64 a_Val, .int .i64 a_Ver, .int .i64 a_Owner], .agg [.int .i64 b_Val, .int .i64 b_Ver, .int .i64 b_Owner]] => c a_Val a_Ver a_Owner b_Val b_Ver b_Owner (fun r0 => k (.bool r0))
  | _ => none
noncomputable def laws_eqWord_f (A : PM.Prims) (a_Val : Int) (a_Ver : Int) (a_Owner : Int) (b_Val : Int) (b_Ver : Int) (b_Owner : Int) (k : (Bool) → PM.R) : PM.R :=
  bif (A.not (A.eq a_Val b_Val)) then
    k false
  else
    bif (A.not (A.eq a_Ver b_Ver)) then
      k false
    else
      bif (A.not (A.eq a_Owner b_Owner)) then
        k false
      else
        k true
noncomputable def laws_eqWord (A : PM.Prims) : laws_eqWord_T := laws_eqWord_f A
noncomputable def laws_eqWord_L (A : PM.Prims) (n : Nat) : PM.Lam := fun cur σ K =>
  match cur, σ, K with
  | _, _, _ => none
noncomputable def laws_eqWord_E (A : PM.Prims) : PM.Env := ⟨[], [], [], [(0, [2, 3]), (1, [2, 3, 9]), (2, [4]), (3, [2, 3, 14]), (4, [4]), (5, [19]), (6, [4]), (7, [4])], laws_eqWord_L A A.fuel⟩
theorem laws_eqWord_ok (A : PM.Prims) (a_Val : Int) (a_Ver : Int) (a_Owner : Int) (b_Val : Int) (b_Ver : Int) (b_Owner : Int) (k : PM.V → PM.R) : PM.pfun A cx [] (laws_eqWord_E A) Go.Proofs.Try.f157 [.agg [.int .i64 a_Val, .int .i64 a_Ver, .int .i64 a_Owner], .agg [.int .i64 b_Val, .int .i64 b_Ver, .int .i64 b_Owner]] k = laws_eqWord_f A a_Val a_Ver a_Owner b_Val b_Ver b_Owner (fun r0 => k (.bool r0)) := by kernel_rfl

theorem laws_eqWord_fn : PM.FnIs Try.prog 157 Try.f157 := .of Try.func157 (by kernel_rfl) (by kernel_rfl)
theorem laws_eqWord_g : PM.GOk Try.prog cx 157 ⟨[], laws_eqWord_w (laws_eqWord PM.std), none⟩ := by
  refine ⟨laws_eqWord_fn.enter, fun _ ds k r h => ?_, fun hm => absurd rfl hm, fun _ e => (by cases e)⟩
  change laws_eqWord_w (laws_eqWord PM.std) ds k = some r at h
  unfold laws_eqWord_w at h
  split at h
  · exact PM.pfun_ok (E := laws_eqWord_E PM.std) (L := fun n => laws_eqWord_L PM.std n) (N := PM.std.fuel) cx_ok .nil mixed .nil laws_eqWord_fn (by kernel_rfl) ⟨rfl, fun _ _ _ => rfl, fun n cur σ K r h => by cases h⟩
      ((laws_eqWord_ok PM.std _ _ _ _ _ _ k).trans h)
  · cases h

abbrev laws_eqWordS_T := (List (List Int)) → (List (List Int)) → ((Bool) → PM.R) → PM.R
noncomputable def laws_eqWordS_w (c : laws_eqWordS_T) (ds : List PM.V) (k : PM.V → PM.R) : PM.R :=
  match ds with
  | [.arr (.vecs 49 3 a), .arr (.vecs 49 3 b)] => c a b (fun r0 => k (.bool r0))
  | _ => none
noncomputable def laws_eqWordS_l0 (A : PM.Prims) (c_157 : laws_eqWord_T) : Nat → (List (List Int)) → (List (List Int)) → (Int) → ((Bool) → PM.R) → (Unit → PM.R) → PM.R
  | 0, _, _, _, _, _ => none
  | n + 1, a1, b2, i3, kret_0, kx0_0 =>
    bif (A.lt i3 (A.vlen a1)) then
      bif (A.inb i3 (A.vlen a1)) then
        bif (A.inb i3 (A.vlen b2)) then
          c_157 (A.vget a1 i3 0) (A.vget a1 i3 1) (A.vget a1 i3 2) (A.vget b2 i3 0) (A.vget b2 i3 1) (A.vget b2 i3 2) (fun r4 =>
            bif (A.not r4) then
              kret_0 false
            else
              laws_eqWordS_l0 A c_157 n a1 b2 (A.add .i64 i3 1) kret_0 kx0_0)
        else
          none
      else
        none
    else
      kx0_0 ()
noncomputable def laws_eqWordS_f (A : PM.Prims) (c_157 : laws_eqWord_T) (a : List (List Int)) (b : List (List Int)) (k : (Bool) → PM.R) : PM.R :=
  bif (A.not (A.eq (A.vlen a) (A.vlen b))) then
    k false
  else
    laws_eqWordS_l0 A c_157 A.fuel a b 0 (fun t456 =>
      k t456) (fun _ =>
      k true)
noncomputable def laws_eqWordS (A : PM.Prims) : laws_eqWordS_T := laws_eqWordS_f A (laws_eqWord A)
noncomputable def laws_eqWordS_L (A : PM.Prims) (c_157 : laws_eqWord_T) (n : Nat) : PM.Lam := fun cur σ K =>
  match cur, σ, K with
  | 0, ⟨[(0, .arr (.vecs 49 3 a1)), (1, .arr (.vecs 49 3 b2)), (5, .int .i64 i3)], []⟩, K => laws_eqWordS_l0 A c_157 n a1 b2 i3 (fun t45 => K .ret ⟨[(4, .bool t45)], []⟩) (fun _ => K (.exit 0) ⟨[], []⟩)
  | _, _, _ => none
noncomputable def laws_eqWordS_E (A : PM.Prims) (c_157 : laws_eqWord_T) : PM.Env := ⟨[(157, ⟨[], laws_eqWord_w c_157, none⟩)], [], [(0, [0, 1, 5], [4])], [(0, [0, 1]), (1, [0, 1, 10]), (2, [4]), (3, [0, 1, 5]), (4, [0, 1, 5, 14]), (5, [0, 1, 5]), (6, [0, 1, 5, 26]), (7, [4]), (8, [4])], laws_eqWordS_L A c_157 A.fuel⟩
theorem laws_eqWordS_l0_ok (A : PM.Prims) (c_157 : laws_eqWord_T) (n : Nat) (a1 : List (List Int)) (b2 : List (List Int)) (i3 : Int) (K : Go.Exit → PM.S → PM.R) : laws_eqWordS_L A c_157 (n + 1) 0 ⟨[(0, .arr (.vecs 49 3 a1)), (1, .arr (.vecs 49 3 b2)), (5, .int .i64 i3)], []⟩ K = PM.roundF A cx (PM.runD A cx (laws_eqWordS_E A c_157).inl (laws_eqWordS_E A c_157).Γ 3) (laws_eqWordS_E A c_157) (laws_eqWordS_L A c_157 n) 0 Go.Proofs.Try.f102 ⟨[(0, .arr (.vecs 49 3 a1)), (1, .arr (.vecs 49 3 b2)), (5, .int .i64 i3)], []⟩ K := by kernel_rfl
theorem laws_eqWordS_ok (A : PM.Prims) (c_157 : laws_eqWord_T) (a : List (List Int)) (b : List (List Int)) (k : PM.V → PM.R) : PM.pfun A cx [] (laws_eqWordS_E A c_157) Go.Proofs.Try.f102 [.arr (.vecs 49 3 a), .arr (.vecs 49 3 b)] k = laws_eqWordS_f A c_157 a b (fun r0 => k (.bool r0)) := by kernel_rfl

theorem laws_eqWordS_fn : PM.FnIs Try.prog 102 Try.f102 := .of Try.func102 (by kernel_rfl) (by kernel_rfl)
theorem laws_eqWordS_g : PM.GOk Try.prog cx 102 ⟨[], laws_eqWordS_w (laws_eqWordS PM.std), none⟩ := by
  refine ⟨laws_eqWordS_fn.enter, fun _ ds k r h => ?_, fun hm => absurd rfl hm, fun _ e => (by cases e)⟩
  change laws_eqWordS_w (laws_eqWordS PM.std) ds k = some r at h
  unfold laws_eqWordS_w at h
  split at h
  · exact PM.pfun_ok (E := laws_eqWordS_E PM.std (laws_eqWord PM.std)) (L := fun n => laws_eqWordS_L PM.std (laws_eqWord PM.std) n) (N := PM.std.fuel) cx_ok (.cons laws_eqWord_g .nil) mixed .nil laws_eqWordS_fn (by kernel_rfl) ⟨rfl, fun cur σ K => by
      dsimp only [laws_eqWordS_L]
      split <;> rfl, fun n cur σ K r h => by
      dsimp only [laws_eqWordS_L] at h
      split at h
      · exact (laws_eqWordS_l0_ok PM.std (laws_eqWord PM.std) n _ _ _ K).symm.trans h
      · cases h⟩
      ((laws_eqWordS_ok PM.std (laws_eqWord PM.std) _ _ k).trans h)
  · cases h

abbrev laws_eqMem_T := (Int) → (List (List Int)) → (Int) → (List (List Int)) → ((Bool) → PM.R) → PM.R
noncomputable def laws_eqMem_w (c : laws_eqMem_T) (ds : List PM.V) (k : PM.V → PM.R) : PM.R :=
  match ds with
  | [.agg [.int .i64 a_Clock, .arr (.vecs 49 3 a_Cells)], .agg [.int .i64 b_Clock, .arr (.vecs 49 3 b_Cells)]] => c a_Clock a_Cells b_Clock b_Cells (fun r0 => k (.bool r0))
  | _ => none
noncomputable def laws_eqMem_f (A : PM.Prims) (c_102 : laws_eqWordS_T) (a_Clock : Int) (a_Cells : List (List Int)) (b_Clock : Int) (b_Cells : List (List Int)) (k : (Bool) → PM.R) : PM.R :=
  bif (A.not (A.eq a_Clock b_Clock)) then
    k false
  else
    c_102 a_Cells b_Cells (fun r1 =>
      bif (A.not r1) then
        k false
      else
        k true)
noncomputable def laws_eqMem (A : PM.Prims) : laws_eqMem_T := laws_eqMem_f A (laws_eqWordS A)
noncomputable def laws_eqMem_L (A : PM.Prims) (c_102 : laws_eqWordS_T) (n : Nat) : PM.Lam := fun cur σ K =>
  match cur, σ, K with
  | _, _, _ => none
noncomputable def laws_eqMem_E (A : PM.Prims) (c_102 : laws_eqWordS_T) : PM.Env := ⟨[(102, ⟨[], laws_eqWordS_w c_102, none⟩)], [], [], [(0, [2, 3]), (1, [2, 3, 9]), (2, [4]), (3, [15]), (4, [4]), (5, [4])], laws_eqMem_L A c_102 A.fuel⟩
theorem laws_eqMem_ok (A : PM.Prims) (c_102 : laws_eqWordS_T) (a_Clock : Int) (a_Cells : List (List Int)) (b_Clock : Int) (b_Cells : List (List Int)) (k : PM.V → PM.R) : PM.pfun A cx [] (laws_eqMem_E A c_102) Go.Proofs.Try.f32 [.agg [.int .i64 a_Clock, .arr (.vecs 49 3 a_Cells)], .agg [.int .i64 b_Clock, .arr (.vecs 49 3 b_Cells)]] k = laws_eqMem_f A c_102 a_Clock a_Cells b_Clock b_Cells (fun r0 => k (.bool r0)) := by kernel_rfl

theorem laws_eqMem_fn : PM.FnIs Try.prog 32 Try.f32 := .of Try.func32 (by kernel_rfl) (by kernel_rfl)
theorem laws_eqMem_g : PM.GOk Try.prog cx 32 ⟨[], laws_eqMem_w (laws_eqMem PM.std), none⟩ := by
  refine ⟨laws_eqMem_fn.enter, fun _ ds k r h => ?_, fun hm => absurd rfl hm, fun _ e => (by cases e)⟩
  change laws_eqMem_w (laws_eqMem PM.std) ds k = some r at h
  unfold laws_eqMem_w at h
  split at h
  · exact PM.pfun_ok (E := laws_eqMem_E PM.std (laws_eqWordS PM.std)) (L := fun n => laws_eqMem_L PM.std (laws_eqWordS PM.std) n) (N := PM.std.fuel) cx_ok (.cons laws_eqWordS_g .nil) mixed .nil laws_eqMem_fn (by kernel_rfl) ⟨rfl, fun _ _ _ => rfl, fun n cur σ K r h => by cases h⟩
      ((laws_eqMem_ok PM.std (laws_eqWordS PM.std) _ _ _ _ k).trans h)
  · cases h

abbrev laws_FnExactProbeStep_T := (Int) → (List (List Int)) → (Int) → (Int) → (Int) → (Int) → (Int) → ((Bool) → PM.R) → PM.R
noncomputable def laws_FnExactProbeStep_w (c : laws_FnExactProbeStep_T) (ds : List PM.V) (k : PM.V → PM.R) : PM.R :=
  match ds with
  | [.agg [.int .i64 aM_Clock, .arr (.vecs 155 3 aM_Cells)], .int .i64 aRv, .agg [.int .i64 aP_Cell, .int .i64 aP_Phase, .int .i64 aP_Ver, .int .i64 aP_Val]] => c aM_Clock aM_Cells aRv aP_Cell aP_Phase aP_Ver aP_Val (fun r0 => k (.bool r0))
  | _ => none
noncomputable def laws_FnExactProbeStep_f (A : PM.Prims) (c_28 : laws_szMem_T) (c_30 : laws_toMem_T) (c_23 : laws_toProbe_T) (c_29 : spec_ProbeStep_T) (c_31 : impl_ProbeStep_T) (c_27 : laws_eqProbe_T) (c_32 : laws_eqMem_T) (aM_Clock : Int) (aM_Cells : List (List Int)) (aRv : Int) (aP_Cell : Int) (aP_Phase : Int) (aP_Ver : Int) (aP_Val : Int) (k : (Bool) → PM.R) : PM.R :=
  c_28 aM_Clock aM_Cells 1048576 (fun r1 =>
    bif (A.lt r1 0) then
      k true
    else
      c_30 aM_Clock aM_Cells (fun r2 r3 =>
        c_23 aP_Cell aP_Phase aP_Ver aP_Val (fun r4 r5 r6 r7 =>
          c_29 r2 r3 aRv r4 r5 r6 r7 (fun r8 r9 r10 r11 =>
            c_30 aM_Clock aM_Cells (fun r12 r13 =>
              c_23 aP_Cell aP_Phase aP_Ver aP_Val (fun r14 r15 r16 r17 =>
                c_31 r12 r13 aRv r14 r15 r16 r17 (fun r18 r19 r20 r21 =>
                  c_27 r18 r19 r20 r21 r8 r9 r10 r11 (fun r22 =>
                    bif (A.not r22) then
                      k false
                    else
                      c_30 aM_Clock aM_Cells (fun r23 r24 =>
                        c_32 r12 r13 r23 r24 (fun r25 =>
                          bif (A.not r25) then
                            k false
                          else
                            k true))))))))))
noncomputable def laws_FnExactProbeStep (A : PM.Prims) : laws_FnExactProbeStep_T := laws_FnExactProbeStep_f A (laws_szMem A) (laws_toMem A) (laws_toProbe A) (spec_ProbeStep A) (impl_ProbeStep A) (laws_eqProbe A) (laws_eqMem A)
noncomputable def laws_FnExactProbeStep_L (A : PM.Prims) (c_28 : laws_szMem_T) (c_30 : laws_toMem_T) (c_23 : laws_toProbe_T) (c_29 : spec_ProbeStep_T) (c_31 : impl_ProbeStep_T) (c_27 : laws_eqProbe_T) (c_32 : laws_eqMem_T) (n : Nat) : PM.Lam := fun cur σ K =>
  match cur, σ, K with
  | _, _, _ => none
noncomputable def laws_FnExactProbeStep_E (A : PM.Prims) (c_28 : laws_szMem_T) (c_30 : laws_toMem_T) (c_23 : laws_toProbe_T) (c_29 : spec_ProbeStep_T) (c_31 : impl_ProbeStep_T) (c_27 : laws_eqProbe_T) (c_32 : laws_eqMem_T) : PM.Env := ⟨[(28, ⟨[], laws_szMem_w c_28, none⟩), (30, ⟨[], laws_toMem_w c_30, none⟩), (23, ⟨[], laws_toProbe_w c_23, none⟩), (29, ⟨[], spec_ProbeStep_w c_29, none⟩), (31, ⟨[], impl_ProbeStep_w c_31, none⟩), (27, ⟨[], laws_eqProbe_w c_27, none⟩), (32, ⟨[], laws_eqMem_w c_32, none⟩)], [], [], [(0, [1, 3, 5]), (1, [1, 3, 5, 7]), (2, [1, 3, 5, 7]), (3, [1, 3, 5, 15]), (4, [6]), (5, [1, 3, 5, 8]), (6, [1, 3, 5, 8, 9]), (7, [3, 8, 9, 10]), (8, [3, 9, 32]), (9, [6]), (10, [37]), (11, [6]), (12, [6])], laws_FnExactProbeStep_L A c_28 c_30 c_23 c_29 c_31 c_27 c_32 A.fuel⟩
theorem laws_FnExactProbeStep_ok (A : PM.Prims) (c_28 : laws_szMem_T) (c_30 : laws_toMem_T) (c_23 : laws_toProbe_T) (c_29 : spec_ProbeStep_T) (c_31 : impl_ProbeStep_T) (c_27 : laws_eqProbe_T) (c_32 : laws_eqMem_T) (aM_Clock : Int) (aM_Cells : List (List Int)) (aRv : Int) (aP_Cell : Int) (aP_Phase : Int) (aP_Ver : Int) (aP_Val : Int) (k : PM.V → PM.R) : PM.pfun A cx [] (laws_FnExactProbeStep_E A c_28 c_30 c_23 c_29 c_31 c_27 c_32) Go.Proofs.Try.f5 [.agg [.int .i64 aM_Clock, .arr (.vecs 155 3 aM_Cells)], .int .i64 aRv, .agg [.int .i64 aP_Cell, .int .i64 aP_Phase, .int .i64 aP_Ver, .int .i64 aP_Val]] k = laws_FnExactProbeStep_f A c_28 c_30 c_23 c_29 c_31 c_27 c_32 aM_Clock aM_Cells aRv aP_Cell aP_Phase aP_Ver aP_Val (fun r0 => k (.bool r0)) := by kernel_rfl

theorem laws_FnExactProbeStep_fn : PM.FnIs Try.prog 5 Try.f5 := .of Try.func5 (by kernel_rfl) (by kernel_rfl)
theorem laws_FnExactProbeStep_g : PM.GOk Try.prog cx 5 ⟨[], laws_FnExactProbeStep_w (laws_FnExactProbeStep PM.std), none⟩ := by
  refine ⟨laws_FnExactProbeStep_fn.enter, fun _ ds k r h => ?_, fun hm => absurd rfl hm, fun _ e => (by cases e)⟩
  change laws_FnExactProbeStep_w (laws_FnExactProbeStep PM.std) ds k = some r at h
  unfold laws_FnExactProbeStep_w at h
  split at h
  · exact PM.pfun_ok (E := laws_FnExactProbeStep_E PM.std (laws_szMem PM.std) (laws_toMem PM.std) (laws_toProbe PM.std) (spec_ProbeStep PM.std) (impl_ProbeStep PM.std) (laws_eqProbe PM.std) (laws_eqMem PM.std)) (L := fun n => laws_FnExactProbeStep_L PM.std (laws_szMem PM.std) (laws_toMem PM.std) (laws_toProbe PM.std) (spec_ProbeStep PM.std) (impl_ProbeStep PM.std) (laws_eqProbe PM.std) (laws_eqMem PM.std) n) (N := PM.std.fuel) cx_ok (.cons laws_szMem_g (.cons laws_toMem_g (.cons laws_toProbe_g (.cons spec_ProbeStep_g (.cons impl_ProbeStep_g (.cons laws_eqProbe_g (.cons laws_eqMem_g .nil))))))) mixed .nil laws_FnExactProbeStep_fn (by kernel_rfl) ⟨rfl, fun _ _ _ => rfl, fun n cur σ K r h => by cases h⟩
      ((laws_FnExactProbeStep_ok PM.std (laws_szMem PM.std) (laws_toMem PM.std) (laws_toProbe PM.std) (spec_ProbeStep PM.std) (impl_ProbeStep PM.std) (laws_eqProbe PM.std) (laws_eqMem PM.std) _ _ _ _ _ _ _ k).trans h)
  · cases h

abbrev laws_big_T := (List Int) → ((Bool) → PM.R) → PM.R
noncomputable def laws_big_w (c : laws_big_T) (ds : List PM.V) (k : PM.V → PM.R) : PM.R :=
  match ds with
  | [.arr (.ints 5 .u8 code)] => c code (fun r0 => k (.bool r0))
  | _ => none
noncomputable def laws_big_f (A : PM.Prims) (code : List Int) (k : (Bool) → PM.R) : PM.R :=
  k (A.lt 1048576 (A.ilen code))
noncomputable def laws_big (A : PM.Prims) : laws_big_T := laws_big_f A
noncomputable def laws_big_L (A : PM.Prims) (n : Nat) : PM.Lam := fun cur σ K =>
  match cur, σ, K with
  | _, _, _ => none
noncomputable def laws_big_E (A : PM.Prims) : PM.Env := ⟨[], [], [], [(0, [0]), (1, [2])], laws_big_L A A.fuel⟩
theorem laws_big_ok (A : PM.Prims) (code : List Int) (k : PM.V → PM.R) : PM.pfun A cx [] (laws_big_E A) Go.Proofs.Try.f33 [.arr (.ints 5 .u8 code)] k = laws_big_f A code (fun r0 => k (.bool r0)) := by kernel_rfl

theorem laws_big_fn : PM.FnIs Try.prog 33 Try.f33 := .of Try.func33 (by kernel_rfl) (by kernel_rfl)
theorem laws_big_g : PM.GOk Try.prog cx 33 ⟨[], laws_big_w (laws_big PM.std), none⟩ := by
  refine ⟨laws_big_fn.enter, fun _ ds k r h => ?_, fun hm => absurd rfl hm, fun _ e => (by cases e)⟩
  change laws_big_w (laws_big PM.std) ds k = some r at h
  unfold laws_big_w at h
  split at h
  · exact PM.pfun_ok (E := laws_big_E PM.std) (L := fun n => laws_big_L PM.std n) (N := PM.std.fuel) cx_ok .nil mixed .nil laws_big_fn (by kernel_rfl) ⟨rfl, fun _ _ _ => rfl, fun n cur σ K r h => by cases h⟩
      ((laws_big_ok PM.std _ k).trans h)
  · cases h

abbrev spec_l1New_T := (List Int) → ((List Int) → (Int) → (Int) → PM.R) → PM.R
noncomputable def spec_l1New_w (c : spec_l1New_T) (ds : List PM.V) (k : PM.V → PM.R) : PM.R :=
  match ds with
  | [.arr (.ints 5 .u8 code)] => c code (fun r0_b r0_i r0_h => k (.tup [.arr (.ints 5 .u8 r0_b), .int .i64 r0_i, .int .i64 r0_h]))
  | _ => none
noncomputable def spec_l1New_l0 (A : PM.Prims) : Nat → (List Int) → (Int) → (Int) → ((List Int) → (Int) → PM.R) → PM.R
  | 0, _, _, _, _ => none
  | n + 1, code1, h2, i3, kx0_0 =>
    bif (A.lt i3 (A.ilen code1)) then
      bif (A.lt i3 4000) then
        bif (A.inb i3 (A.ilen code1)) then
          spec_l1New_l0 A n code1 (A.bits .and .i64 (A.add .i64 (A.add .i64 (A.mul .i64 h2 131) (A.wrap .i64 (A.iget code1 i3))) 7) 1073741823) (A.add .i64 i3 1) kx0_0
        else
          none
      else
        kx0_0 code1 h2
    else
      kx0_0 code1 h2
noncomputable def spec_l1New_f (A : PM.Prims) (code : List Int) (k : (List Int) → (Int) → (Int) → PM.R) : PM.R :=
  spec_l1New_l0 A A.fuel code (A.add .i64 10101 (A.ilen code)) 0 (fun code46 h57 =>
    k code46 0 h57)
noncomputable def spec_l1New (A : PM.Prims) : spec_l1New_T := spec_l1New_f A
noncomputable def spec_l1New_L (A : PM.Prims) (n : Nat) : PM.Lam := fun cur σ K =>
  match cur, σ, K with
  | 0, ⟨[(0, .arr (.ints 5 .u8 code1)), (3, .int .i64 h2), (4, .int .i64 i3)], []⟩, K => spec_l1New_l0 A n code1 h2 i3 (fun code4 h5 => K (.exit 0) ⟨[(0, .arr (.ints 5 .u8 code4)), (3, .int .i64 h5)], []⟩)
  | _, _, _ => none
noncomputable def spec_l1New_E (A : PM.Prims) : PM.Env := ⟨[], [], [(0, [0, 3, 4], [0, 2, 3])], [(0, [0]), (1, [0, 3]), (2, [0, 3, 4]), (3, [0, 3, 4, 15]), (4, [0, 3, 4]), (5, [0, 3, 4]), (6, [2])], spec_l1New_L A A.fuel⟩
theorem spec_l1New_l0_ok (A : PM.Prims) (n : Nat) (code1 : List Int) (h2 : Int) (i3 : Int) (K : Go.Exit → PM.S → PM.R) : spec_l1New_L A (n + 1) 0 ⟨[(0, .arr (.ints 5 .u8 code1)), (3, .int .i64 h2), (4, .int .i64 i3)], []⟩ K = PM.roundF A cx (PM.runD A cx (spec_l1New_E A).inl (spec_l1New_E A).Γ 3) (spec_l1New_E A) (spec_l1New_L A n) 0 Go.Proofs.Try.f103 ⟨[(0, .arr (.ints 5 .u8 code1)), (3, .int .i64 h2), (4, .int .i64 i3)], []⟩ K := by kernel_rfl
theorem spec_l1New_ok (A : PM.Prims) (code : List Int) (k : PM.V → PM.R) : PM.pfunN A cx (spec_l1New_E A) Go.Proofs.Try.f103 [.arr (.ints 5 .u8 code)] k = spec_l1New_f A code (fun r0_b r0_i r0_h => k (.tup [.arr (.ints 5 .u8 r0_b), .int .i64 r0_i, .int .i64 r0_h])) := by kernel_rfl

theorem spec_l1New_fn : PM.FnIs Try.prog 103 Try.f103 := .of Try.func103 (by kernel_rfl) (by kernel_rfl)
theorem spec_l1New_g : PM.GOk Try.prog cx 103 ⟨[], fun _ _ => none, some (PM.spNew (spec_l1New_w (spec_l1New PM.std)))⟩ := by
  refine PM.GOk.ofS spec_l1New_fn.enter (PM.spNew_ok fun ds k r h => ?_)
  change spec_l1New_w (spec_l1New PM.std) ds k = some r at h
  unfold spec_l1New_w at h
  split at h
  · exact PM.pfunN_ok (E := spec_l1New_E PM.std) (L := fun n => spec_l1New_L PM.std n) (N := PM.std.fuel) cx_ok .nil mixed .nil spec_l1New_fn (by kernel_rfl) ⟨rfl, fun cur σ K => by
      dsimp only [spec_l1New_L]
      split <;> rfl, fun n cur σ K r h => by
      dsimp only [spec_l1New_L] at h
      split at h
      · exact (spec_l1New_l0_ok PM.std n _ _ _ K).symm.trans h
      · cases h⟩
      ((spec_l1New_ok PM.std _ k).trans h)
  · cases h

abbrev spec_l1Byte_T := (List Int) → (Int) → (Int) → ((Int) → (List Int) → (Int) → (Int) → PM.R) → PM.R
noncomputable def spec_l1Byte_w (c : spec_l1Byte_T) (ds : List PM.V) (k : PM.V → PM.R) : PM.R :=
  match ds with
  | [.tup [.arr (.ints 5 .u8 c_b), .int .i64 c_i, .int .i64 c_h]] => c c_b c_i c_h (fun r0 bx_b bx_i bx_h => k (.tup [.int .i64 r0, .tup [.arr (.ints 5 .u8 bx_b), .int .i64 bx_i, .int .i64 bx_h]]))
  | _ => none
noncomputable def spec_l1Byte_f (A : PM.Prims) (c_b : List Int) (c_i : Int) (c_h : Int) (k : (Int) → (List Int) → (Int) → (Int) → PM.R) : PM.R :=
  bif (A.shOk .i64 33) then
    bif (A.shOk .i64 45) then
      bif (A.lt c_i (A.ilen c_b)) then
        bif (A.inb c_i (A.ilen c_b)) then
          k (A.bits .and .i64 (A.add .i64 (A.bits .and .i64 (A.bits .xor .i64 (A.shift .shr .i64 (A.add .i64 (A.mul .i64 c_h 6364136223846793005) 1442695040888963407) 33) (A.shift .shr .i64 (A.add .i64 (A.mul .i64 c_h 6364136223846793005) 1442695040888963407) 45)) 255) (A.wrap .i64 (A.iget c_b c_i))) 255) c_b (A.add .i64 c_i 1) (A.add .i64 (A.mul .i64 c_h 6364136223846793005) 1442695040888963407)
        else
          none
      else
        k (A.bits .and .i64 (A.bits .xor .i64 (A.shift .shr .i64 (A.add .i64 (A.mul .i64 c_h 6364136223846793005) 1442695040888963407) 33) (A.shift .shr .i64 (A.add .i64 (A.mul .i64 c_h 6364136223846793005) 1442695040888963407) 45)) 255) c_b c_i (A.add .i64 (A.mul .i64 c_h 6364136223846793005) 1442695040888963407)
    else
      none
  else
    none
noncomputable def spec_l1Byte (A : PM.Prims) : spec_l1Byte_T := spec_l1Byte_f A
noncomputable def spec_l1Byte_L (A : PM.Prims) (n : Nat) : PM.Lam := fun cur σ K =>
  match cur, σ, K with
  | _, _, _ => none
noncomputable def spec_l1Byte_E (A : PM.Prims) : PM.Env := ⟨[], [], [], [(0, [0]), (1, [0]), (2, [0, 3]), (3, [0, 3, 34]), (4, [0, 3]), (5, [0, 3]), (6, [0, 2])], spec_l1Byte_L A A.fuel⟩
theorem spec_l1Byte_ok (A : PM.Prims) (c_b : List Int) (c_i : Int) (c_h : Int) (k : PM.V → PM.R) : PM.pfunB A cx (spec_l1Byte_E A) Go.Proofs.Try.f159 [.tup [.arr (.ints 5 .u8 c_b), .int .i64 c_i, .int .i64 c_h]] k = spec_l1Byte_f A c_b c_i c_h (fun r0 bx_b bx_i bx_h => k (.tup [.int .i64 r0, .tup [.arr (.ints 5 .u8 bx_b), .int .i64 bx_i, .int .i64 bx_h]])) := by kernel_rfl

theorem spec_l1Byte_fn : PM.FnIs Try.prog 159 Try.f159 := .of Try.func159 (by kernel_rfl) (by kernel_rfl)
theorem spec_l1Byte_g : PM.GOk Try.prog cx 159 ⟨[], fun _ _ => none, some (PM.spBox (spec_l1Byte_w (spec_l1Byte PM.std)))⟩ := by
  refine PM.GOk.ofS spec_l1Byte_fn.enter (PM.spBox_ok fun ds k r h => ?_)
  change spec_l1Byte_w (spec_l1Byte PM.std) ds k = some r at h
  unfold spec_l1Byte_w at h
  split at h
  · exact PM.pfunB_ok (E := spec_l1Byte_E PM.std) (L := fun n => spec_l1Byte_L PM.std n) (N := PM.std.fuel) cx_ok .nil mixed .nil spec_l1Byte_fn (by kernel_rfl) ⟨rfl, fun _ _ _ => rfl, fun n cur σ K r h => by cases h⟩
      ((spec_l1Byte_ok PM.std _ _ _ k).trans h)
  · cases h

abbrev spec_l1Below_T := (List Int) → (Int) → (Int) → (Int) → ((Int) → (List Int) → (Int) → (Int) → PM.R) → PM.R
noncomputable def spec_l1Below_w (c : spec_l1Below_T) (ds : List PM.V) (k : PM.V → PM.R) : PM.R :=
  match ds with
  | [.tup [.arr (.ints 5 .u8 c_b), .int .i64 c_i, .int .i64 c_h], .int .i64 n_] => c c_b c_i c_h n_ (fun r0 bx_b bx_i bx_h => k (.tup [.int .i64 r0, .tup [.arr (.ints 5 .u8 bx_b), .int .i64 bx_i, .int .i64 bx_h]]))
  | _ => none
noncomputable def spec_l1Below_f (A : PM.Prims) (c_159 : spec_l1Byte_T) (c_b : List Int) (c_i : Int) (c_h : Int) (n_ : Int) (k : (Int) → (List Int) → (Int) → (Int) → PM.R) : PM.R :=
  bif (A.le n_ 0) then
    k 0 c_b c_i c_h
  else
    bif (A.le n_ 256) then
      c_159 c_b c_i c_h (fun r1 r2 r3 r4 =>
        bif (A.nz n_) then
          k (A.rem .i64 r1 n_) r2 r3 r4
        else
          none)
    else
      c_159 c_b c_i c_h (fun r5 r6 r7 r8 =>
        c_159 r6 r7 r8 (fun r9 r10 r11 r12 =>
          c_159 r10 r11 r12 (fun r13 r14 r15 r16 =>
            c_159 r14 r15 r16 (fun r17 r18 r19 r20 =>
              bif (A.nz n_) then
                k (A.rem .i64 (A.add .i64 (A.add .i64 (A.add .i64 (A.mul .i64 r5 16777216) (A.mul .i64 r9 65536)) (A.mul .i64 r13 256)) r17) n_) r18 r19 r20
              else
                none))))
noncomputable def spec_l1Below (A : PM.Prims) : spec_l1Below_T := spec_l1Below_f A (spec_l1Byte A)
noncomputable def spec_l1Below_L (A : PM.Prims) (c_159 : spec_l1Byte_T) (n : Nat) : PM.Lam := fun cur σ K =>
  match cur, σ, K with
  | _, _, _ => none
noncomputable def spec_l1Below_E (A : PM.Prims) (c_159 : spec_l1Byte_T) : PM.Env := ⟨[(159, ⟨[], fun _ _ => none, some (PM.spBox (spec_l1Byte_w c_159))⟩)], [], [], [(0, [0, 1]), (1, [0, 1, 10]), (2, [0, 4]), (3, [0, 1, 12]), (4, [0, 4]), (5, [0, 1, 5]), (6, [0, 1, 5, 6]), (7, [0, 1, 5, 6, 7]), (8, [0, 1, 5, 6, 7, 8]), (9, [0, 4])], spec_l1Below_L A c_159 A.fuel⟩
theorem spec_l1Below_ok (A : PM.Prims) (c_159 : spec_l1Byte_T) (c_b : List Int) (c_i : Int) (c_h : Int) (n_ : Int) (k : PM.V → PM.R) : PM.pfunB A cx (spec_l1Below_E A c_159) Go.Proofs.Try.f108 [.tup [.arr (.ints 5 .u8 c_b), .int .i64 c_i, .int .i64 c_h], .int .i64 n_] k = spec_l1Below_f A c_159 c_b c_i c_h n_ (fun r0 bx_b bx_i bx_h => k (.tup [.int .i64 r0, .tup [.arr (.ints 5 .u8 bx_b), .int .i64 bx_i, .int .i64 bx_h]])) := by kernel_rfl

theorem spec_l1Below_fn : PM.FnIs Try.prog 108 Try.f108 := .of Try.func108 (by kernel_rfl) (by kernel_rfl)
theorem spec_l1Below_g : PM.GOk Try.prog cx 108 ⟨[], fun _ _ => none, some (PM.spBox (spec_l1Below_w (spec_l1Below PM.std)))⟩ := by
  refine PM.GOk.ofS spec_l1Below_fn.enter (PM.spBox_ok fun ds k r h => ?_)
  change spec_l1Below_w (spec_l1Below PM.std) ds k = some r at h
  unfold spec_l1Below_w at h
  split at h
  · exact PM.pfunB_ok (E := spec_l1Below_E PM.std (spec_l1Byte PM.std)) (L := fun n => spec_l1Below_L PM.std (spec_l1Byte PM.std) n) (N := PM.std.fuel) cx_ok (.cons spec_l1Byte_g .nil) mixed .nil spec_l1Below_fn (by kernel_rfl) ⟨rfl, fun _ _ _ => rfl, fun n cur σ K r h => by cases h⟩
      ((spec_l1Below_ok PM.std (spec_l1Byte PM.std) _ _ _ _ k).trans h)
  · cases h

abbrev spec_l1Once_T := (List Int) → (Int) → (Int) → (Int) → ((Bool) → (List Int) → (Int) → (Int) → PM.R) → PM.R
noncomputable def spec_l1Once_w (c : spec_l1Once_T) (ds : List PM.V) (k : PM.V → PM.R) : PM.R :=
  match ds with
  | [.tup [.arr (.ints 5 .u8 c_b), .int .i64 c_i, .int .i64 c_h], .int .i64 n_] => c c_b c_i c_h n_ (fun r0 bx_b bx_i bx_h => k (.tup [.bool r0, .tup [.arr (.ints 5 .u8 bx_b), .int .i64 bx_i, .int .i64 bx_h]]))
  | _ => none
noncomputable def spec_l1Once_f (A : PM.Prims) (c_108 : spec_l1Below_T) (c_b : List Int) (c_i : Int) (c_h : Int) (n_ : Int) (k : (Bool) → (List Int) → (Int) → (Int) → PM.R) : PM.R :=
  c_108 c_b c_i c_h n_ (fun r1 r2 r3 r4 =>
    k (A.eq r1 0) r2 r3 r4)
noncomputable def spec_l1Once (A : PM.Prims) : spec_l1Once_T := spec_l1Once_f A (spec_l1Below A)
noncomputable def spec_l1Once_L (A : PM.Prims) (c_108 : spec_l1Below_T) (n : Nat) : PM.Lam := fun cur σ K =>
  match cur, σ, K with
  | _, _, _ => none
noncomputable def spec_l1Once_E (A : PM.Prims) (c_108 : spec_l1Below_T) : PM.Env := ⟨[(108, ⟨[], fun _ _ => none, some (PM.spBox (spec_l1Below_w c_108))⟩)], [], [], [(0, [0, 1]), (1, [0, 4])], spec_l1Once_L A c_108 A.fuel⟩
theorem spec_l1Once_ok (A : PM.Prims) (c_108 : spec_l1Below_T) (c_b : List Int) (c_i : Int) (c_h : Int) (n_ : Int) (k : PM.V → PM.R) : PM.pfunB A cx (spec_l1Once_E A c_108) Go.Proofs.Try.f105 [.tup [.arr (.ints 5 .u8 c_b), .int .i64 c_i, .int .i64 c_h], .int .i64 n_] k = spec_l1Once_f A c_108 c_b c_i c_h n_ (fun r0 bx_b bx_i bx_h => k (.tup [.bool r0, .tup [.arr (.ints 5 .u8 bx_b), .int .i64 bx_i, .int .i64 bx_h]])) := by kernel_rfl

theorem spec_l1Once_fn : PM.FnIs Try.prog 105 Try.f105 := .of Try.func105 (by kernel_rfl) (by kernel_rfl)
theorem spec_l1Once_g : PM.GOk Try.prog cx 105 ⟨[], fun _ _ => none, some (PM.spBox (spec_l1Once_w (spec_l1Once PM.std)))⟩ := by
  refine PM.GOk.ofS spec_l1Once_fn.enter (PM.spBox_ok fun ds k r h => ?_)
  change spec_l1Once_w (spec_l1Once PM.std) ds k = some r at h
  unfold spec_l1Once_w at h
  split at h
  · exact PM.pfunB_ok (E := spec_l1Once_E PM.std (spec_l1Below PM.std)) (L := fun n => spec_l1Once_L PM.std (spec_l1Below PM.std) n) (N := PM.std.fuel) cx_ok (.cons spec_l1Below_g .nil) mixed .nil spec_l1Once_fn (by kernel_rfl) ⟨rfl, fun _ _ _ => rfl, fun n cur σ K r h => by cases h⟩
      ((spec_l1Once_ok PM.std (spec_l1Below PM.std) _ _ _ _ k).trans h)
  · cases h

abbrev spec_l3Draw_T := (List Int) → (Int) → (Int) → ((Int) → (List Int) → (Int) → (Int) → PM.R) → PM.R
noncomputable def spec_l3Draw_w (c : spec_l3Draw_T) (ds : List PM.V) (k : PM.V → PM.R) : PM.R :=
  match ds with
  | [.tup [.arr (.ints 5 .u8 c_b), .int .i64 c_i, .int .i64 c_h]] => c c_b c_i c_h (fun r0 bx_b bx_i bx_h => k (.tup [.int .i64 r0, .tup [.arr (.ints 5 .u8 bx_b), .int .i64 bx_i, .int .i64 bx_h]]))
  | _ => none
noncomputable def spec_l3Draw_f (A : PM.Prims) (c_108 : spec_l1Below_T) (c_105 : spec_l1Once_T) (c_b : List Int) (c_i : Int) (c_h : Int) (k : (Int) → (List Int) → (Int) → (Int) → PM.R) : PM.R :=
  c_105 c_b c_i c_h 6 (fun r1 r2 r3 r4 =>
    bif r1 then
      c_108 r2 r3 r4 (A.ilen [0, 65535, 65534, 256]) (fun r5 r6 r7 r8 =>
        bif (A.inb r5 (A.ilen [0, 65535, 65534, 256])) then
          k (A.iget [0, 65535, 65534, 256] r5) r6 r7 r8
        else
          none)
    else
      c_108 r2 r3 r4 9 (fun r9 r10 r11 r12 =>
        k r9 r10 r11 r12))
noncomputable def spec_l3Draw (A : PM.Prims) : spec_l3Draw_T := spec_l3Draw_f A (spec_l1Below A) (spec_l1Once A)
noncomputable def spec_l3Draw_L (A : PM.Prims) (c_108 : spec_l1Below_T) (c_105 : spec_l1Once_T) (n : Nat) : PM.Lam := fun cur σ K =>
  match cur, σ, K with
  | _, _, _ => none
noncomputable def spec_l3Draw_E (A : PM.Prims) (c_108 : spec_l1Below_T) (c_105 : spec_l1Once_T) : PM.Env := ⟨[(108, ⟨[], fun _ _ => none, some (PM.spBox (spec_l1Below_w c_108))⟩), (105, ⟨[], fun _ _ => none, some (PM.spBox (spec_l1Once_w c_105))⟩)], [(118, Go.Proofs.Try.f118)], [], [(0, [0]), (1, [0, 4]), (2, [0, 2]), (3, [0, 2])], spec_l3Draw_L A c_108 c_105 A.fuel⟩
theorem spec_l3Draw_ok (A : PM.Prims) (c_108 : spec_l1Below_T) (c_105 : spec_l1Once_T) (c_b : List Int) (c_i : Int) (c_h : Int) (k : PM.V → PM.R) : PM.pfunB A cx (spec_l3Draw_E A c_108 c_105) Go.Proofs.Try.f158 [.tup [.arr (.ints 5 .u8 c_b), .int .i64 c_i, .int .i64 c_h]] k = spec_l3Draw_f A c_108 c_105 c_b c_i c_h (fun r0 bx_b bx_i bx_h => k (.tup [.int .i64 r0, .tup [.arr (.ints 5 .u8 bx_b), .int .i64 bx_i, .int .i64 bx_h]])) := by kernel_rfl

theorem spec_l3Draw_fn : PM.FnIs Try.prog 158 Try.f158 := .of Try.func158 (by kernel_rfl) (by kernel_rfl)
theorem spec_l3Draw_g : PM.GOk Try.prog cx 158 ⟨[], fun _ _ => none, some (PM.spBox (spec_l3Draw_w (spec_l3Draw PM.std)))⟩ := by
  refine PM.GOk.ofS spec_l3Draw_fn.enter (PM.spBox_ok fun ds k r h => ?_)
  change spec_l3Draw_w (spec_l3Draw PM.std) ds k = some r at h
  unfold spec_l3Draw_w at h
  split at h
  · exact PM.pfunB_ok (E := spec_l3Draw_E PM.std (spec_l1Below PM.std) (spec_l1Once PM.std)) (L := fun n => spec_l3Draw_L PM.std (spec_l1Below PM.std) (spec_l1Once PM.std) n) (N := PM.std.fuel) cx_ok (.cons spec_l1Below_g (.cons spec_l1Once_g .nil)) mixed (.cons (.of Try.func118 (by kernel_rfl) (by kernel_rfl)) (by kernel_rfl) .nil) spec_l3Draw_fn (by kernel_rfl) ⟨rfl, fun _ _ _ => rfl, fun n cur σ K r h => by cases h⟩
      ((spec_l3Draw_ok PM.std (spec_l1Below PM.std) (spec_l1Once PM.std) _ _ _ k).trans h)
  · cases h

abbrev spec_l3Mem_T := (List Int) → (Int) → (Int) → ((Int) → (List (List Int)) → (List Int) → (Int) → (Int) → PM.R) → PM.R
noncomputable def spec_l3Mem_w (c : spec_l3Mem_T) (ds : List PM.V) (k : PM.V → PM.R) : PM.R :=
  match ds with
  | [.tup [.arr (.ints 5 .u8 c_b), .int .i64 c_i, .int .i64 c_h]] => c c_b c_i c_h (fun r0_Clock r0_Cells bx_b bx_i bx_h => k (.tup [.agg [.int .i64 r0_Clock, .arr (.vecs 49 3 r0_Cells)], .tup [.arr (.ints 5 .u8 bx_b), .int .i64 bx_i, .int .i64 bx_h]]))
  | _ => none
noncomputable def spec_l3Mem_l0 (A : PM.Prims) (c_108 : spec_l1Below_T) (c_105 : spec_l1Once_T) (c_158 : spec_l3Draw_T) : Nat → (Int) → (Int) → (List Int) → (Int) → (Int) → (Int) → (Int) → (List (List Int)) → (List (List Int)) → ((List Int) → (Int) → (Int) → (Int) → (Int) → (List (List Int)) → (List (List Int)) → PM.R) → PM.R
  | 0, _, _, _, _, _, _, _, _, _, _ => none
  | n + 1, busy17, i18, o019, o020, o021, o122, o223, o324, o425, kx0_0 =>
    bif (A.lt i18 8) then
      c_158 o019 o020 o021 (fun r26 r27 r28 r29 =>
        c_108 r27 r28 r29 (A.add .i64 o223 1) (fun r30 r31 r32 r33 =>
          bif (A.lt 0 busy17) then
            c_105 r31 r32 r33 4 (fun r34 r35 r36 r37 =>
              bif r34 then
                c_108 r35 r36 r37 4 (fun r38 r39 r40 r41 =>
                  bif (A.room (A.vlen o425) (A.vlen [[r26, r30, (A.add .i64 1 r38)]])) then
                    spec_l3Mem_l0 A c_108 c_105 c_158 n busy17 (A.add .i64 i18 1) r39 r40 r41 o122 o223 o324 (A.vapp o425 [[r26, r30, (A.add .i64 1 r38)]]) kx0_0
                  else
                    none)
              else
                bif (A.room (A.vlen o425) (A.vlen [[r26, r30, 0]])) then
                  spec_l3Mem_l0 A c_108 c_105 c_158 n busy17 (A.add .i64 i18 1) r35 r36 r37 o122 o223 o324 (A.vapp o425 [[r26, r30, 0]]) kx0_0
                else
                  none)
          else
            bif (A.room (A.vlen o425) (A.vlen [[r26, r30, 0]])) then
              spec_l3Mem_l0 A c_108 c_105 c_158 n busy17 (A.add .i64 i18 1) r31 r32 r33 o122 o223 o324 (A.vapp o425 [[r26, r30, 0]]) kx0_0
            else
              none))
    else
      kx0_0 o019 o020 o021 o122 o223 o324 o425
noncomputable def spec_l3Mem_f (A : PM.Prims) (c_108 : spec_l1Below_T) (c_105 : spec_l1Once_T) (c_158 : spec_l3Draw_T) (c_b : List Int) (c_i : Int) (c_h : Int) (k : (Int) → (List (List Int)) → (List Int) → (Int) → (Int) → PM.R) : PM.R :=
  c_108 c_b c_i c_h 12 (fun r1 r2 r3 r4 =>
    c_105 r2 r3 r4 20 (fun r5 r6 r7 r8 =>
      bif r5 then
        c_108 r6 r7 r8 2 (fun r9 r10 r11 r12 =>
          c_108 r10 r11 r12 3 (fun r13 r14 r15 r16 =>
            spec_l3Mem_l0 A c_108 c_105 c_158 A.fuel r13 0 r14 r15 r16 0 (A.sub .i64 1000000 r9) [] [] (fun o04249 o04350 o04451 o14552 o24653 o34754 o44855 =>
              k o24653 o44855 o04249 o04350 o04451)))
      else
        c_108 r6 r7 r8 3 (fun r56 r57 r58 r59 =>
          spec_l3Mem_l0 A c_108 c_105 c_158 A.fuel r56 0 r57 r58 r59 0 r1 [] [] (fun o04269 o04370 o04471 o14572 o24673 o34774 o44875 =>
            k o24673 o44875 o04269 o04370 o04471))))
noncomputable def spec_l3Mem (A : PM.Prims) : spec_l3Mem_T := spec_l3Mem_f A (spec_l1Below A) (spec_l1Once A) (spec_l3Draw A)
noncomputable def spec_l3Mem_L (A : PM.Prims) (c_108 : spec_l1Below_T) (c_105 : spec_l1Once_T) (c_158 : spec_l3Draw_T) (n : Nat) : PM.Lam := fun cur σ K =>
  match cur, σ, K with
  | 0, ⟨[(0, .pbox 0 0), (2, .pbox 1 0), (3, .pbox 2 0), (4, .int .i64 busy17), (5, .int .i64 i18)], [(0, .box [.arr (.ints 5 .u8 o019), .int .i64 o020, .int .i64 o021]), (1, .box [.int .i64 o122, .sref 3]), (2, .box [.int .i64 o223, .sref 4]), (3, .arr true (.vecs 49 3 o324)), (4, .arr true (.vecs 49 3 o425))]⟩, K => spec_l3Mem_l0 A c_108 c_105 c_158 n busy17 i18 o019 o020 o021 o122 o223 o324 o425 (fun o042 o043 o044 o145 o246 o347 o448 => K (.exit 0) ⟨[(0, .pbox 0 0), (2, .pbox 1 0), (3, .pbox 2 0)], [(0, .box [.arr (.ints 5 .u8 o042), .int .i64 o043, .int .i64 o044]), (1, .box [.int .i64 o145, .sref 3]), (2, .box [.int .i64 o246, .sref 4]), (3, .arr true (.vecs 49 3 o347)), (4, .arr true (.vecs 49 3 o448))]⟩)
  | _, _, _ => none
noncomputable def spec_l3Mem_E (A : PM.Prims) (c_108 : spec_l1Below_T) (c_105 : spec_l1Once_T) (c_158 : spec_l3Draw_T) : PM.Env := ⟨[(108, ⟨[], fun _ _ => none, some (PM.spBox (spec_l1Below_w c_108))⟩), (105, ⟨[], fun _ _ => none, some (PM.spBox (spec_l1Once_w c_105))⟩), (158, ⟨[], fun _ _ => none, some (PM.spBox (spec_l3Draw_w c_158))⟩)], [], [(0, [0, 2, 3, 4, 5], [0, 2, 3])], [(0, [0, 2]), (1, [0, 2, 3]), (2, [0, 2, 3, 11]), (3, [0, 2, 3]), (4, [0, 2, 3, 4]), (5, [0, 2, 3, 4, 5]), (6, [0, 2, 3, 4, 5, 19]), (7, [0, 2, 3, 4, 5]), (8, [0, 2, 3, 4, 5, 6]), (9, [0, 2, 3, 4, 5, 6]), (10, [0, 2, 3, 4, 5, 6, 36]), (11, [0, 2, 3, 4, 5, 6]), (12, [0, 2, 3, 4, 5]), (13, [0, 2])], spec_l3Mem_L A c_108 c_105 c_158 A.fuel⟩
theorem spec_l3Mem_l0_ok (A : PM.Prims) (c_108 : spec_l1Below_T) (c_105 : spec_l1Once_T) (c_158 : spec_l3Draw_T) (n : Nat) (busy17 : Int) (i18 : Int) (o019 : List Int) (o020 : Int) (o021 : Int) (o122 : Int) (o223 : Int) (o324 : List (List Int)) (o425 : List (List Int)) (K : Go.Exit → PM.S → PM.R) : spec_l3Mem_L A c_108 c_105 c_158 (n + 1) 0 ⟨[(0, .pbox 0 0), (2, .pbox 1 0), (3, .pbox 2 0), (4, .int .i64 busy17), (5, .int .i64 i18)], [(0, .box [.arr (.ints 5 .u8 o019), .int .i64 o020, .int .i64 o021]), (1, .box [.int .i64 o122, .sref 3]), (2, .box [.int .i64 o223, .sref 4]), (3, .arr true (.vecs 49 3 o324)), (4, .arr true (.vecs 49 3 o425))]⟩ K = PM.roundF A cx (PM.runD A cx (spec_l3Mem_E A c_108 c_105 c_158).inl (spec_l3Mem_E A c_108 c_105 c_158).Γ 3) (spec_l3Mem_E A c_108 c_105 c_158) (spec_l3Mem_L A c_108 c_105 c_158 n) 0 Go.Proofs.Try.f104 ⟨[(0, .pbox 0 0), (2, .pbox 1 0), (3, .pbox 2 0), (4, .int .i64 busy17), (5, .int .i64 i18)], [(0, .box [.arr (.ints 5 .u8 o019), .int .i64 o020, .int .i64 o021]), (1, .box [.int .i64 o122, .sref 3]), (2, .box [.int .i64 o223, .sref 4]), (3, .arr true (.vecs 49 3 o324)), (4, .arr true (.vecs 49 3 o425))]⟩ K := by kernel_rfl
theorem spec_l3Mem_ok (A : PM.Prims) (c_108 : spec_l1Below_T) (c_105 : spec_l1Once_T) (c_158 : spec_l3Draw_T) (c_b : List Int) (c_i : Int) (c_h : Int) (k : PM.V → PM.R) : PM.pfunB A cx (spec_l3Mem_E A c_108 c_105 c_158) Go.Proofs.Try.f104 [.tup [.arr (.ints 5 .u8 c_b), .int .i64 c_i, .int .i64 c_h]] k = spec_l3Mem_f A c_108 c_105 c_158 c_b c_i c_h (fun r0_Clock r0_Cells bx_b bx_i bx_h => k (.tup [.agg [.int .i64 r0_Clock, .arr (.vecs 49 3 r0_Cells)], .tup [.arr (.ints 5 .u8 bx_b), .int .i64 bx_i, .int .i64 bx_h]])) := by kernel_rfl

theorem spec_l3Mem_fn : PM.FnIs Try.prog 104 Try.f104 := .of Try.func104 (by kernel_rfl) (by kernel_rfl)
theorem spec_l3Mem_g : PM.GOk Try.prog cx 104 ⟨[], fun _ _ => none, some (PM.spBox (spec_l3Mem_w (spec_l3Mem PM.std)))⟩ := by
  refine PM.GOk.ofS spec_l3Mem_fn.enter (PM.spBox_ok fun ds k r h => ?_)
  change spec_l3Mem_w (spec_l3Mem PM.std) ds k = some r at h
  unfold spec_l3Mem_w at h
  split at h
  · exact PM.pfunB_ok (E := spec_l3Mem_E PM.std (spec_l1Below PM.std) (spec_l1Once PM.std) (spec_l3Draw PM.std)) (L := fun n => spec_l3Mem_L PM.std (spec_l1Below PM.std) (spec_l1Once PM.std) (spec_l3Draw PM.std) n) (N := PM.std.fuel) cx_ok (.cons spec_l1Below_g (.cons spec_l1Once_g (.cons spec_l3Draw_g .nil))) mixed .nil spec_l3Mem_fn (by kernel_rfl) ⟨rfl, fun cur σ K => by
      dsimp only [spec_l3Mem_L]
      split <;> rfl, fun n cur σ K r h => by
      dsimp only [spec_l3Mem_L] at h
      split at h
      · exact (spec_l3Mem_l0_ok PM.std (spec_l1Below PM.std) (spec_l1Once PM.std) (spec_l3Draw PM.std) n _ _ _ _ _ _ _ _ _ K).symm.trans h
      · cases h⟩
      ((spec_l3Mem_ok PM.std (spec_l1Below PM.std) (spec_l1Once PM.std) (spec_l3Draw PM.std) _ _ _ k).trans h)
  · cases h

abbrev laws_szHoldS_T := (List (List Int)) → (Int) → ((Int) → PM.R) → PM.R
noncomputable def laws_szHoldS_w (c : laws_szHoldS_T) (ds : List PM.V) (k : PM.V → PM.R) : PM.R :=
  match ds with
  | [.arr (.vecs 124 3 a), .int .i64 left] => c a left (fun r0 => k (.int .i64 r0))
  | _ => none
noncomputable def laws_szHoldS_f (A : PM.Prims) (a : List (List Int)) (left : Int) (k : (Int) → PM.R) : PM.R :=
  bif (A.lt (A.sub .i64 left (A.vlen a)) 0) then
    k (-1)
  else
    k (A.sub .i64 left (A.vlen a))
noncomputable def laws_szHoldS (A : PM.Prims) : laws_szHoldS_T := laws_szHoldS_f A
noncomputable def laws_szHoldS_L (A : PM.Prims) (n : Nat) : PM.Lam := fun cur σ K =>
  match cur, σ, K with
  | _, _, _ => none
noncomputable def laws_szHoldS_E (A : PM.Prims) : PM.Env := ⟨[], [], [], [(0, [0, 1]), (1, [1]), (2, [1, 10]), (3, [4]), (4, [4])], laws_szHoldS_L A A.fuel⟩
theorem laws_szHoldS_ok (A : PM.Prims) (a : List (List Int)) (left : Int) (k : PM.V → PM.R) : PM.pfun A cx [] (laws_szHoldS_E A) Go.Proofs.Try.f36 [.arr (.vecs 124 3 a), .int .i64 left] k = laws_szHoldS_f A a left (fun r0 => k (.int .i64 r0)) := by kernel_rfl

theorem laws_szHoldS_fn : PM.FnIs Try.prog 36 Try.f36 := .of Try.func36 (by kernel_rfl) (by kernel_rfl)
theorem laws_szHoldS_g : PM.GOk Try.prog cx 36 ⟨[], laws_szHoldS_w (laws_szHoldS PM.std), none⟩ := by
  refine ⟨laws_szHoldS_fn.enter, fun _ ds k r h => ?_, fun hm => absurd rfl hm, fun _ e => (by cases e)⟩
  change laws_szHoldS_w (laws_szHoldS PM.std) ds k = some r at h
  unfold laws_szHoldS_w at h
  split at h
  · exact PM.pfun_ok (E := laws_szHoldS_E PM.std) (L := fun n => laws_szHoldS_L PM.std n) (N := PM.std.fuel) cx_ok .nil mixed .nil laws_szHoldS_fn (by kernel_rfl) ⟨rfl, fun _ _ _ => rfl, fun n cur σ K r h => by cases h⟩
      ((laws_szHoldS_ok PM.std _ _ k).trans h)
  · cases h

abbrev laws_toHold_T := (Int) → (Int) → (Int) → ((Int) → (Int) → (Int) → PM.R) → PM.R
noncomputable def laws_toHold_w (c : laws_toHold_T) (ds : List PM.V) (k : PM.V → PM.R) : PM.R :=
  match ds with
  | [.agg [.int .i64 a_Who, .int .i64 a_What, .int .i64 a_Mode]] => c a_Who a_What a_Mode (fun r0_Who r0_What r0_Mode => k (.agg [.int .i64 r0_Who, .int .i64 r0_What, .int .i64 r0_Mode]))
  | _ => none
noncomputable def laws_toHold_f (A : PM.Prims) (a_Who : Int) (a_What : Int) (a_Mode : Int) (k : (Int) → (Int) → (Int) → PM.R) : PM.R :=
  k a_Who a_What a_Mode
noncomputable def laws_toHold (A : PM.Prims) : laws_toHold_T := laws_toHold_f A
noncomputable def laws_toHold_L (A : PM.Prims) (n : Nat) : PM.Lam := fun cur σ K =>
  match cur, σ, K with
  | _, _, _ => none
noncomputable def laws_toHold_E (A : PM.Prims) : PM.Env := ⟨[], [], [], [(0, [1, 2]), (1, [1, 2, 3]), (2, [1, 2, 3]), (3, [1, 2, 3]), (4, [2, 3]), (5, [2])], laws_toHold_L A A.fuel⟩
theorem laws_toHold_ok (A : PM.Prims) (a_Who : Int) (a_What : Int) (a_Mode : Int) (k : PM.V → PM.R) : PM.pfun A cx [] (laws_toHold_E A) Go.Proofs.Try.f109 [.agg [.int .i64 a_Who, .int .i64 a_What, .int .i64 a_Mode]] k = laws_toHold_f A a_Who a_What a_Mode (fun r0_Who r0_What r0_Mode => k (.agg [.int .i64 r0_Who, .int .i64 r0_What, .int .i64 r0_Mode])) := by kernel_rfl

theorem laws_toHold_fn : PM.FnIs Try.prog 109 Try.f109 := .of Try.func109 (by kernel_rfl) (by kernel_rfl)
theorem laws_toHold_g : PM.GOk Try.prog cx 109 ⟨[], laws_toHold_w (laws_toHold PM.std), none⟩ := by
  refine ⟨laws_toHold_fn.enter, fun _ ds k r h => ?_, fun hm => absurd rfl hm, fun _ e => (by cases e)⟩
  change laws_toHold_w (laws_toHold PM.std) ds k = some r at h
  unfold laws_toHold_w at h
  split at h
  · exact PM.pfun_ok (E := laws_toHold_E PM.std) (L := fun n => laws_toHold_L PM.std n) (N := PM.std.fuel) cx_ok .nil mixed .nil laws_toHold_fn (by kernel_rfl) ⟨rfl, fun _ _ _ => rfl, fun n cur σ K r h => by cases h⟩
      ((laws_toHold_ok PM.std _ _ _ k).trans h)
  · cases h

abbrev laws_toHoldS_T := (List (List Int)) → ((List (List Int)) → PM.R) → PM.R
noncomputable def laws_toHoldS_w (c : laws_toHoldS_T) (ds : List PM.V) (k : PM.V → PM.R) : PM.R :=
  match ds with
  | [.arr (.vecs 124 3 a)] => c a (fun r0 => k (.arr (.vecs 73 3 r0)))
  | _ => none
noncomputable def laws_toHoldS_l0 (A : PM.Prims) (c_109 : laws_toHold_T) : Nat → (List (List Int)) → (Int) → (List (List Int)) → ((List (List Int)) → PM.R) → PM.R
  | 0, _, _, _, _ => none
  | n + 1, a1, i2, o03, kx0_0 =>
    bif (A.lt i2 (A.vlen a1)) then
      bif (A.inb i2 (A.vlen a1)) then
        c_109 (A.vget a1 i2 0) (A.vget a1 i2 1) (A.vget a1 i2 2) (fun r4 r5 r6 =>
          bif (A.inb i2 (A.vlen o03)) then
            laws_toHoldS_l0 A c_109 n a1 (A.add .i64 i2 1) (A.vput o03 i2 [r4, r5, r6]) kx0_0
          else
            none)
      else
        none
    else
      kx0_0 o03
noncomputable def laws_toHoldS_f (A : PM.Prims) (c_109 : laws_toHold_T) (a : List (List Int)) (k : (List (List Int)) → PM.R) : PM.R :=
  bif (A.mkOk (A.vlen a)) then
    bif (A.le (A.vlen a) (A.vlen a)) then
      bif (A.mkOk (A.vlen a)) then
        laws_toHoldS_l0 A c_109 A.fuel a 0 (A.vzero 3 (A.vlen a)) (fun o078 =>
          k o078)
      else
        none
    else
      none
  else
    none
noncomputable def laws_toHoldS (A : PM.Prims) : laws_toHoldS_T := laws_toHoldS_f A (laws_toHold A)
noncomputable def laws_toHoldS_L (A : PM.Prims) (c_109 : laws_toHold_T) (n : Nat) : PM.Lam := fun cur σ K =>
  match cur, σ, K with
  | 0, ⟨[(0, .arr (.vecs 124 3 a1)), (3, .sref 0), (4, .int .i64 i2)], [(0, .arr true (.vecs 73 3 o03))]⟩, K => laws_toHoldS_l0 A c_109 n a1 i2 o03 (fun o07 => K (.exit 0) ⟨[(3, .sref 0)], [(0, .arr true (.vecs 73 3 o07))]⟩)
  | _, _, _ => none
noncomputable def laws_toHoldS_E (A : PM.Prims) (c_109 : laws_toHold_T) : PM.Env := ⟨[(109, ⟨[], laws_toHold_w c_109, none⟩)], [], [(0, [0, 3, 4], [2, 3])], [(0, [0]), (1, [0, 3]), (2, [0, 3, 4]), (3, [0, 3, 4, 11]), (4, [0, 3, 4]), (5, [0, 3, 4]), (6, [2])], laws_toHoldS_L A c_109 A.fuel⟩
theorem laws_toHoldS_l0_ok (A : PM.Prims) (c_109 : laws_toHold_T) (n : Nat) (a1 : List (List Int)) (i2 : Int) (o03 : List (List Int)) (K : Go.Exit → PM.S → PM.R) : laws_toHoldS_L A c_109 (n + 1) 0 ⟨[(0, .arr (.vecs 124 3 a1)), (3, .sref 0), (4, .int .i64 i2)], [(0, .arr true (.vecs 73 3 o03))]⟩ K = PM.roundF A cx (PM.runD A cx (laws_toHoldS_E A c_109).inl (laws_toHoldS_E A c_109).Γ 3) (laws_toHoldS_E A c_109) (laws_toHoldS_L A c_109 n) 0 Go.Proofs.Try.f38 ⟨[(0, .arr (.vecs 124 3 a1)), (3, .sref 0), (4, .int .i64 i2)], [(0, .arr true (.vecs 73 3 o03))]⟩ K := by kernel_rfl
theorem laws_toHoldS_ok (A : PM.Prims) (c_109 : laws_toHold_T) (a : List (List Int)) (k : PM.V → PM.R) : PM.pfun A cx [] (laws_toHoldS_E A c_109) Go.Proofs.Try.f38 [.arr (.vecs 124 3 a)] k = laws_toHoldS_f A c_109 a (fun r0 => k (.arr (.vecs 73 3 r0))) := by kernel_rfl

theorem laws_toHoldS_fn : PM.FnIs Try.prog 38 Try.f38 := .of Try.func38 (by kernel_rfl) (by kernel_rfl)
theorem laws_toHoldS_g : PM.GOk Try.prog cx 38 ⟨[], laws_toHoldS_w (laws_toHoldS PM.std), none⟩ := by
  refine ⟨laws_toHoldS_fn.enter, fun _ ds k r h => ?_, fun hm => absurd rfl hm, fun _ e => (by cases e)⟩
  change laws_toHoldS_w (laws_toHoldS PM.std) ds k = some r at h
  unfold laws_toHoldS_w at h
  split at h
  · exact PM.pfun_ok (E := laws_toHoldS_E PM.std (laws_toHold PM.std)) (L := fun n => laws_toHoldS_L PM.std (laws_toHold PM.std) n) (N := PM.std.fuel) cx_ok (.cons laws_toHold_g .nil) mixed .nil laws_toHoldS_fn (by kernel_rfl) ⟨rfl, fun cur σ K => by
      dsimp only [laws_toHoldS_L]
      split <;> rfl, fun n cur σ K r h => by
      dsimp only [laws_toHoldS_L] at h
      split at h
      · exact (laws_toHoldS_l0_ok PM.std (laws_toHold PM.std) n _ _ _ K).symm.trans h
      · cases h⟩
      ((laws_toHoldS_ok PM.std (laws_toHold PM.std) _ k).trans h)
  · cases h

abbrev spec_HoldsOk_T := (List (List Int)) → ((Bool) → PM.R) → PM.R
noncomputable def spec_HoldsOk_w (c : spec_HoldsOk_T) (ds : List PM.V) (k : PM.V → PM.R) : PM.R :=
  match ds with
  | [.arr (.vecs 73 3 __)] => c __ (fun r0 => k (.bool r0))
  | _ => none
noncomputable def spec_HoldsOk_l0 (A : PM.Prims) (c_94 : spec_l1In_T) : Nat → (List (List Int)) → (Int) → ((Bool) → PM.R) → (Unit → PM.R) → PM.R
  | 0, _, _, _, _ => none
  | n + 1, l1, i2, kret_0, kx0_0 =>
    bif (A.lt i2 (A.vlen l1)) then
      bif (A.inb i2 (A.vlen l1)) then
        c_94 (A.vget l1 i2 0) 1 9 (fun r3 =>
          bif (A.not r3) then
            kret_0 false
          else
            c_94 (A.vget l1 i2 1) 0 8 (fun r5 =>
              bif (A.not r5) then
                kret_0 false
              else
                c_94 (A.vget l1 i2 2) 1 2 (fun r6 =>
                  bif (A.not r6) then
                    kret_0 false
                  else
                    bif (A.lt 0 i2) then
                      bif (A.inb (A.sub .i64 i2 1) (A.vlen l1)) then
                        bif (A.lt (A.vget l1 i2 1) (A.vget l1 (A.sub .i64 i2 1) 1)) then
                          kret_0 false
                        else
                          bif (A.inb (A.sub .i64 i2 1) (A.vlen l1)) then
                            bif (A.eq (A.vget l1 (A.sub .i64 i2 1) 1) (A.vget l1 i2 1)) then
                              bif (A.inb (A.sub .i64 i2 1) (A.vlen l1)) then
                                bif (A.le (A.vget l1 i2 0) (A.vget l1 (A.sub .i64 i2 1) 0)) then
                                  kret_0 false
                                else
                                  bif (A.eq (A.vget l1 i2 2) 2) then
                                    kret_0 false
                                  else
                                    bif (A.inb (A.sub .i64 i2 1) (A.vlen l1)) then
                                      bif (A.eq (A.vget l1 (A.sub .i64 i2 1) 2) 2) then
                                        kret_0 false
                                      else
                                        spec_HoldsOk_l0 A c_94 n l1 (A.add .i64 i2 1) kret_0 kx0_0
                                    else
                                      none
                              else
                                none
                            else
                              spec_HoldsOk_l0 A c_94 n l1 (A.add .i64 i2 1) kret_0 kx0_0
                          else
                            none
                      else
                        none
                    else
                      spec_HoldsOk_l0 A c_94 n l1 (A.add .i64 i2 1) kret_0 kx0_0)))
      else
        none
    else
      kx0_0 ()
noncomputable def spec_HoldsOk_f (A : PM.Prims) (c_94 : spec_l1In_T) (__ : List (List Int)) (k : (Bool) → PM.R) : PM.R :=
  spec_HoldsOk_l0 A c_94 A.fuel __ 0 (fun t247 =>
    k t247) (fun _ =>
    k true)
noncomputable def spec_HoldsOk (A : PM.Prims) : spec_HoldsOk_T := spec_HoldsOk_f A (spec_l1In A)
noncomputable def spec_HoldsOk_L (A : PM.Prims) (c_94 : spec_l1In_T) (n : Nat) : PM.Lam := fun cur σ K =>
  match cur, σ, K with
  | 0, ⟨[(0, .arr (.vecs 73 3 l1)), (3, .int .i64 i2)], []⟩, K => spec_HoldsOk_l0 A c_94 n l1 i2 (fun t24 => K .ret ⟨[(2, .bool t24)], []⟩) (fun _ => K (.exit 0) ⟨[], []⟩)
  | _, _, _ => none
noncomputable def spec_HoldsOk_E (A : PM.Prims) (c_94 : spec_l1In_T) : PM.Env := ⟨[(94, ⟨[], spec_l1In_w c_94, none⟩)], [], [(0, [0, 3], [2])], [(0, [0]), (1, [0, 3]), (2, [0, 3, 8]), (3, [0, 3]), (4, [0, 3, 4]), (5, [0, 3, 4, 30]), (6, [2]), (7, [0, 3, 79]), (8, [2]), (9, [2])], spec_HoldsOk_L A c_94 A.fuel⟩
theorem spec_HoldsOk_l0_ok (A : PM.Prims) (c_94 : spec_l1In_T) (n : Nat) (l1 : List (List Int)) (i2 : Int) (K : Go.Exit → PM.S → PM.R) : spec_HoldsOk_L A c_94 (n + 1) 0 ⟨[(0, .arr (.vecs 73 3 l1)), (3, .int .i64 i2)], []⟩ K = PM.roundF A cx (PM.runD A cx (spec_HoldsOk_E A c_94).inl (spec_HoldsOk_E A c_94).Γ 3) (spec_HoldsOk_E A c_94) (spec_HoldsOk_L A c_94 n) 0 Go.Proofs.Try.f37 ⟨[(0, .arr (.vecs 73 3 l1)), (3, .int .i64 i2)], []⟩ K := by kernel_rfl
theorem spec_HoldsOk_ok (A : PM.Prims) (c_94 : spec_l1In_T) (__ : List (List Int)) (k : PM.V → PM.R) : PM.pfun A cx [] (spec_HoldsOk_E A c_94) Go.Proofs.Try.f37 [.arr (.vecs 73 3 __)] k = spec_HoldsOk_f A c_94 __ (fun r0 => k (.bool r0)) := by kernel_rfl

theorem spec_HoldsOk_fn : PM.FnIs Try.prog 37 Try.f37 := .of Try.func37 (by kernel_rfl) (by kernel_rfl)
theorem spec_HoldsOk_g : PM.GOk Try.prog cx 37 ⟨[], spec_HoldsOk_w (spec_HoldsOk PM.std), none⟩ := by
  refine ⟨spec_HoldsOk_fn.enter, fun _ ds k r h => ?_, fun hm => absurd rfl hm, fun _ e => (by cases e)⟩
  change spec_HoldsOk_w (spec_HoldsOk PM.std) ds k = some r at h
  unfold spec_HoldsOk_w at h
  split at h
  · exact PM.pfun_ok (E := spec_HoldsOk_E PM.std (spec_l1In PM.std)) (L := fun n => spec_HoldsOk_L PM.std (spec_l1In PM.std) n) (N := PM.std.fuel) cx_ok (.cons spec_l1In_g .nil) mixed .nil spec_HoldsOk_fn (by kernel_rfl) ⟨rfl, fun cur σ K => by
      dsimp only [spec_HoldsOk_L]
      split <;> rfl, fun n cur σ K r h => by
      dsimp only [spec_HoldsOk_L] at h
      split at h
      · exact (spec_HoldsOk_l0_ok PM.std (spec_l1In PM.std) n _ _ K).symm.trans h
      · cases h⟩
      ((spec_HoldsOk_ok PM.std (spec_l1In PM.std) _ k).trans h)
  · cases h

abbrev impl_isHold_T := (Int) → (Int) → (Int) → ((Bool) → PM.R) → PM.R
noncomputable def impl_isHold_w (c : impl_isHold_T) (ds : List PM.V) (k : PM.V → PM.R) : PM.R :=
  match ds with
  | [.int .i64 who, .int .i64 what, .int .i64 mode] => c who what mode (fun r0 => k (.bool r0))
  | _ => none
noncomputable def impl_isHold_f (A : PM.Prims) (c_97 : impl_within_T) (who : Int) (what : Int) (mode : Int) (k : (Bool) → PM.R) : PM.R :=
  c_97 who 1 9 (fun r1 =>
    bif r1 then
      c_97 what 0 8 (fun r2 =>
        bif r2 then
          c_97 mode 1 2 (fun r3 =>
            k r3)
        else
          k false)
    else
      k false)
noncomputable def impl_isHold (A : PM.Prims) : impl_isHold_T := impl_isHold_f A (impl_within A)
noncomputable def impl_isHold_L (A : PM.Prims) (c_97 : impl_within_T) (n : Nat) : PM.Lam := fun cur σ K =>
  match cur, σ, K with
  | _, _, _ => none
noncomputable def impl_isHold_E (A : PM.Prims) (c_97 : impl_within_T) : PM.Env := ⟨[(97, ⟨[], impl_within_w c_97, none⟩)], [], [], [(0, [0, 1, 2]), (1, [6])], impl_isHold_L A c_97 A.fuel⟩
theorem impl_isHold_ok (A : PM.Prims) (c_97 : impl_within_T) (who : Int) (what : Int) (mode : Int) (k : PM.V → PM.R) : PM.pfun A cx [] (impl_isHold_E A c_97) Go.Proofs.Try.f110 [.int .i64 who, .int .i64 what, .int .i64 mode] k = impl_isHold_f A c_97 who what mode (fun r0 => k (.bool r0)) := by kernel_rfl

theorem impl_isHold_fn : PM.FnIs Try.prog 110 Try.f110 := .of Try.func110 (by kernel_rfl) (by kernel_rfl)
theorem impl_isHold_g : PM.GOk Try.prog cx 110 ⟨[], impl_isHold_w (impl_isHold PM.std), none⟩ := by
  refine ⟨impl_isHold_fn.enter, fun _ ds k r h => ?_, fun hm => absurd rfl hm, fun _ e => (by cases e)⟩
  change impl_isHold_w (impl_isHold PM.std) ds k = some r at h
  unfold impl_isHold_w at h
  split at h
  · exact PM.pfun_ok (E := impl_isHold_E PM.std (impl_within PM.std)) (L := fun n => impl_isHold_L PM.std (impl_within PM.std) n) (N := PM.std.fuel) cx_ok (.cons impl_within_g .nil) mixed .nil impl_isHold_fn (by kernel_rfl) ⟨rfl, fun _ _ _ => rfl, fun n cur σ K r h => by cases h⟩
      ((impl_isHold_ok PM.std (impl_within PM.std) _ _ _ k).trans h)
  · cases h

abbrev impl_compareHolds_T := (Int) → (Int) → (Int) → (Int) → (Int) → (Int) → ((Int) → PM.R) → PM.R
noncomputable def impl_compareHolds_w (c : impl_compareHolds_T) (ds : List PM.V) (k : PM.V → PM.R) : PM.R :=
  match ds with
  | [.agg [.int .i64 a_Who, .int .i64 a_What, .int .i64 a_Mode], .agg [.int .i64 b_Who, .int .i64 b_What, .int .i64 b_Mode]] => c a_Who a_What a_Mode b_Who b_What b_Mode (fun r0 => k (.int .i64 r0))
  | _ => none
noncomputable def impl_compareHolds_f (A : PM.Prims) (a_Who : Int) (a_What : Int) (a_Mode : Int) (b_Who : Int) (b_What : Int) (b_Mode : Int) (k : (Int) → PM.R) : PM.R :=
  bif (A.not (A.eq a_What b_What)) then
    k (A.sub .i64 a_What b_What)
  else
    k (A.sub .i64 a_Who b_Who)
noncomputable def impl_compareHolds (A : PM.Prims) : impl_compareHolds_T := impl_compareHolds_f A
noncomputable def impl_compareHolds_L (A : PM.Prims) (n : Nat) : PM.Lam := fun cur σ K =>
  match cur, σ, K with
  | _, _, _ => none
noncomputable def impl_compareHolds_E (A : PM.Prims) : PM.Env := ⟨[], [], [], [(0, [2, 3]), (1, [2, 3, 9]), (2, [4]), (3, [4])], impl_compareHolds_L A A.fuel⟩
theorem impl_compareHolds_ok (A : PM.Prims) (a_Who : Int) (a_What : Int) (a_Mode : Int) (b_Who : Int) (b_What : Int) (b_Mode : Int) (k : PM.V → PM.R) : PM.pfun A cx [] (impl_compareHolds_E A) Go.Proofs.Try.f111 [.agg [.int .i64 a_Who, .int .i64 a_What, .int .i64 a_Mode], .agg [.int .i64 b_Who, .int .i64 b_What, .int .i64 b_Mode]] k = impl_compareHolds_f A a_Who a_What a_Mode b_Who b_What b_Mode (fun r0 => k (.int .i64 r0)) := by kernel_rfl

theorem impl_compareHolds_fn : PM.FnIs Try.prog 111 Try.f111 := .of Try.func111 (by kernel_rfl) (by kernel_rfl)
theorem impl_compareHolds_g : PM.GOk Try.prog cx 111 ⟨[], impl_compareHolds_w (impl_compareHolds PM.std), none⟩ := by
  refine ⟨impl_compareHolds_fn.enter, fun _ ds k r h => ?_, fun hm => absurd rfl hm, fun _ e => (by cases e)⟩
  change impl_compareHolds_w (impl_compareHolds PM.std) ds k = some r at h
  unfold impl_compareHolds_w at h
  split at h
  · exact PM.pfun_ok (E := impl_compareHolds_E PM.std) (L := fun n => impl_compareHolds_L PM.std n) (N := PM.std.fuel) cx_ok .nil mixed .nil impl_compareHolds_fn (by kernel_rfl) ⟨rfl, fun _ _ _ => rfl, fun n cur σ K r h => by cases h⟩
      ((impl_compareHolds_ok PM.std _ _ _ _ _ _ k).trans h)
  · cases h

abbrev impl_HoldsOk_T := (List (List Int)) → ((Bool) → PM.R) → PM.R
noncomputable def impl_HoldsOk_w (c : impl_HoldsOk_T) (ds : List PM.V) (k : PM.V → PM.R) : PM.R :=
  match ds with
  | [.arr (.vecs 73 3 l)] => c l (fun r0 => k (.bool r0))
  | _ => none
noncomputable def impl_HoldsOk_l0 (A : PM.Prims) (c_110 : impl_isHold_T) (c_111 : impl_compareHolds_T) : Nat → (List (List Int)) → (List (List Int)) → (Int) → (Int) → ((Bool) → PM.R) → (Unit → PM.R) → PM.R
  | 0, _, _, _, _, _, _ => none
  | n + 1, l1, t52, t63, t74, kret_0, kx0_0 =>
    bif (A.lt t74 t63) then
      bif (A.inb t74 (A.vlen t52)) then
        c_110 (A.vget t52 t74 0) (A.vget t52 t74 1) (A.vget t52 t74 2) (fun r5 =>
          bif (A.not r5) then
            kret_0 false
          else
            bif (A.lt 0 t74) then
              bif (A.inb (A.sub .i64 t74 1) (A.vlen l1)) then
                c_111 (A.vget l1 (A.sub .i64 t74 1) 0) (A.vget l1 (A.sub .i64 t74 1) 1) (A.vget l1 (A.sub .i64 t74 1) 2) (A.vget t52 t74 0) (A.vget t52 t74 1) (A.vget t52 t74 2) (fun r7 =>
                  bif (A.le 0 r7) then
                    kret_0 false
                  else
                    bif (A.lt 0 t74) then
                      bif (A.inb (A.sub .i64 t74 1) (A.vlen l1)) then
                        bif (A.eq (A.vget l1 (A.sub .i64 t74 1) 1) (A.vget t52 t74 1)) then
                          bif (A.eq (A.vget t52 t74 2) 2) then
                            kret_0 false
                          else
                            bif (A.inb (A.sub .i64 t74 1) (A.vlen l1)) then
                              bif (A.eq (A.vget l1 (A.sub .i64 t74 1) 2) 2) then
                                kret_0 false
                              else
                                impl_HoldsOk_l0 A c_110 c_111 n l1 t52 t63 (A.add .i64 t74 1) kret_0 kx0_0
                            else
                              none
                        else
                          impl_HoldsOk_l0 A c_110 c_111 n l1 t52 t63 (A.add .i64 t74 1) kret_0 kx0_0
                      else
                        none
                    else
                      impl_HoldsOk_l0 A c_110 c_111 n l1 t52 t63 (A.add .i64 t74 1) kret_0 kx0_0)
              else
                none
            else
              bif (A.lt 0 t74) then
                bif (A.inb (A.sub .i64 t74 1) (A.vlen l1)) then
                  bif (A.eq (A.vget l1 (A.sub .i64 t74 1) 1) (A.vget t52 t74 1)) then
                    bif (A.eq (A.vget t52 t74 2) 2) then
                      kret_0 false
                    else
                      bif (A.inb (A.sub .i64 t74 1) (A.vlen l1)) then
                        bif (A.eq (A.vget l1 (A.sub .i64 t74 1) 2) 2) then
                          kret_0 false
                        else
                          impl_HoldsOk_l0 A c_110 c_111 n l1 t52 t63 (A.add .i64 t74 1) kret_0 kx0_0
                      else
                        none
                  else
                    impl_HoldsOk_l0 A c_110 c_111 n l1 t52 t63 (A.add .i64 t74 1) kret_0 kx0_0
                else
                  none
              else
                impl_HoldsOk_l0 A c_110 c_111 n l1 t52 t63 (A.add .i64 t74 1) kret_0 kx0_0)
      else
        none
    else
      kx0_0 ()
noncomputable def impl_HoldsOk_f (A : PM.Prims) (c_110 : impl_isHold_T) (c_111 : impl_compareHolds_T) (l : List (List Int)) (k : (Bool) → PM.R) : PM.R :=
  impl_HoldsOk_l0 A c_110 c_111 A.fuel l l (A.vlen l) 0 (fun t268 =>
    k t268) (fun _ =>
    k true)
noncomputable def impl_HoldsOk (A : PM.Prims) : impl_HoldsOk_T := impl_HoldsOk_f A (impl_isHold A) (impl_compareHolds A)
noncomputable def impl_HoldsOk_L (A : PM.Prims) (c_110 : impl_isHold_T) (c_111 : impl_compareHolds_T) (n : Nat) : PM.Lam := fun cur σ K =>
  match cur, σ, K with
  | 0, ⟨[(0, .arr (.vecs 73 3 l1)), (5, .arr (.vecs 73 3 t52)), (6, .int .i64 t63), (7, .int .i64 t74)], []⟩, K => impl_HoldsOk_l0 A c_110 c_111 n l1 t52 t63 t74 (fun t26 => K .ret ⟨[(2, .bool t26)], []⟩) (fun _ => K (.exit 0) ⟨[], []⟩)
  | _, _, _ => none
noncomputable def impl_HoldsOk_E (A : PM.Prims) (c_110 : impl_isHold_T) (c_111 : impl_compareHolds_T) : PM.Env := ⟨[(110, ⟨[], impl_isHold_w c_110, none⟩), (111, ⟨[], impl_compareHolds_w c_111, none⟩)], [], [(0, [0, 5, 6, 7], [2])], [(0, [0]), (1, [0, 5, 6, 7]), (2, [0, 5, 6, 7, 8]), (3, [0, 3, 4, 5, 6, 7]), (4, [0, 3, 4, 5, 6, 7, 33]), (5, [2]), (6, [0, 5, 6, 7, 60]), (7, [2]), (8, [0, 5, 6, 7]), (9, [2])], impl_HoldsOk_L A c_110 c_111 A.fuel⟩
theorem impl_HoldsOk_l0_ok (A : PM.Prims) (c_110 : impl_isHold_T) (c_111 : impl_compareHolds_T) (n : Nat) (l1 : List (List Int)) (t52 : List (List Int)) (t63 : Int) (t74 : Int) (K : Go.Exit → PM.S → PM.R) : impl_HoldsOk_L A c_110 c_111 (n + 1) 0 ⟨[(0, .arr (.vecs 73 3 l1)), (5, .arr (.vecs 73 3 t52)), (6, .int .i64 t63), (7, .int .i64 t74)], []⟩ K = PM.roundF A cx (PM.runD A cx (impl_HoldsOk_E A c_110 c_111).inl (impl_HoldsOk_E A c_110 c_111).Γ 3) (impl_HoldsOk_E A c_110 c_111) (impl_HoldsOk_L A c_110 c_111 n) 0 Go.Proofs.Try.f39 ⟨[(0, .arr (.vecs 73 3 l1)), (5, .arr (.vecs 73 3 t52)), (6, .int .i64 t63), (7, .int .i64 t74)], []⟩ K := by kernel_rfl
theorem impl_HoldsOk_ok (A : PM.Prims) (c_110 : impl_isHold_T) (c_111 : impl_compareHolds_T) (l : List (List Int)) (k : PM.V → PM.R) : PM.pfun A cx [] (impl_HoldsOk_E A c_110 c_111) Go.Proofs.Try.f39 [.arr (.vecs 73 3 l)] k = impl_HoldsOk_f A c_110 c_111 l (fun r0 => k (.bool r0)) := by kernel_rfl

theorem impl_HoldsOk_fn : PM.FnIs Try.prog 39 Try.f39 := .of Try.func39 (by kernel_rfl) (by kernel_rfl)
theorem impl_HoldsOk_g : PM.GOk Try.prog cx 39 ⟨[], impl_HoldsOk_w (impl_HoldsOk PM.std), none⟩ := by
  refine ⟨impl_HoldsOk_fn.enter, fun _ ds k r h => ?_, fun hm => absurd rfl hm, fun _ e => (by cases e)⟩
  change impl_HoldsOk_w (impl_HoldsOk PM.std) ds k = some r at h
  unfold impl_HoldsOk_w at h
  split at h
  · exact PM.pfun_ok (E := impl_HoldsOk_E PM.std (impl_isHold PM.std) (impl_compareHolds PM.std)) (L := fun n => impl_HoldsOk_L PM.std (impl_isHold PM.std) (impl_compareHolds PM.std) n) (N := PM.std.fuel) cx_ok (.cons impl_isHold_g (.cons impl_compareHolds_g .nil)) mixed .nil impl_HoldsOk_fn (by kernel_rfl) ⟨rfl, fun cur σ K => by
      dsimp only [impl_HoldsOk_L]
      split <;> rfl, fun n cur σ K r h => by
      dsimp only [impl_HoldsOk_L] at h
      split at h
      · exact (impl_HoldsOk_l0_ok PM.std (impl_isHold PM.std) (impl_compareHolds PM.std) n _ _ _ _ K).symm.trans h
      · cases h⟩
      ((impl_HoldsOk_ok PM.std (impl_isHold PM.std) (impl_compareHolds PM.std) _ k).trans h)
  · cases h

abbrev laws_eqHold_T := (Int) → (Int) → (Int) → (Int) → (Int) → (Int) → ((Bool) → PM.R) → PM.R
noncomputable def laws_eqHold_w (c : laws_eqHold_T) (ds : List PM.V) (k : PM.V → PM.R) : PM.R :=
  match ds with
  | [.agg [.int .i64 a_Who, .int .i64 a_What, .int .i64 a_Mode], .agg [.int .i64 b_Who, .int .i64 b_What, .int .i64 b_Mode]] => c a_Who a_What a_Mode b_Who b_What b_Mode (fun r0 => k (.bool r0))
  | _ => none
noncomputable def laws_eqHold_f (A : PM.Prims) (a_Who : Int) (a_What : Int) (a_Mode : Int) (b_Who : Int) (b_What : Int) (b_Mode : Int) (k : (Bool) → PM.R) : PM.R :=
  bif (A.not (A.eq a_Who b_Who)) then
    k false
  else
    bif (A.not (A.eq a_What b_What)) then
      k false
    else
      bif (A.not (A.eq a_Mode b_Mode)) then
        k false
      else
        k true
noncomputable def laws_eqHold (A : PM.Prims) : laws_eqHold_T := laws_eqHold_f A
noncomputable def laws_eqHold_L (A : PM.Prims) (n : Nat) : PM.Lam := fun cur σ K =>
  match cur, σ, K with
  | _, _, _ => none
noncomputable def laws_eqHold_E (A : PM.Prims) : PM.Env := ⟨[], [], [], [(0, [2, 3]), (1, [2, 3, 9]), (2, [4]), (3, [2, 3, 14]), (4, [4]), (5, [19]), (6, [4]), (7, [4])], laws_eqHold_L A A.fuel⟩
theorem laws_eqHold_ok (A : PM.Prims) (a_Who : Int) (a_What : Int) (a_Mode : Int) (b_Who : Int) (b_What : Int) (b_Mode : Int) (k : PM.V → PM.R) : PM.pfun A cx [] (laws_eqHold_E A) Go.Proofs.Try.f112 [.agg [.int .i64 a_Who, .int .i64 a_What, .int .i64 a_Mode], .agg [.int .i64 b_Who, .int .i64 b_What, .int .i64 b_Mode]] k = laws_eqHold_f A a_Who a_What a_Mode b_Who b_What b_Mode (fun r0 => k (.bool r0)) := by kernel_rfl

theorem laws_eqHold_fn : PM.FnIs Try.prog 112 Try.f112 := .of Try.func112 (by kernel_rfl) (by kernel_rfl)
theorem laws_eqHold_g : PM.GOk Try.prog cx 112 ⟨[], laws_eqHold_w (laws_eqHold PM.std), none⟩ := by
  refine ⟨laws_eqHold_fn.enter, fun _ ds k r h => ?_, fun hm => absurd rfl hm, fun _ e => (by cases e)⟩
  change laws_eqHold_w (laws_eqHold PM.std) ds k = some r at h
  unfold laws_eqHold_w at h
  split at h
  · exact PM.pfun_ok (E := laws_eqHold_E PM.std) (L := fun n => laws_eqHold_L PM.std n) (N := PM.std.fuel) cx_ok .nil mixed .nil laws_eqHold_fn (by kernel_rfl) ⟨rfl, fun _ _ _ => rfl, fun n cur σ K r h => by cases h⟩
      ((laws_eqHold_ok PM.std _ _ _ _ _ _ k).trans h)
  · cases h

abbrev laws_eqHoldS_T := (List (List Int)) → (List (List Int)) → ((Bool) → PM.R) → PM.R
noncomputable def laws_eqHoldS_w (c : laws_eqHoldS_T) (ds : List PM.V) (k : PM.V → PM.R) : PM.R :=
  match ds with
  | [.arr (.vecs 73 3 a), .arr (.vecs 73 3 b)] => c a b (fun r0 => k (.bool r0))
  | _ => none
noncomputable def laws_eqHoldS_l0 (A : PM.Prims) (c_112 : laws_eqHold_T) : Nat → (List (List Int)) → (List (List Int)) → (Int) → ((Bool) → PM.R) → (Unit → PM.R) → PM.R
  | 0, _, _, _, _, _ => none
  | n + 1, a1, b2, i3, kret_0, kx0_0 =>
    bif (A.lt i3 (A.vlen a1)) then
      bif (A.inb i3 (A.vlen a1)) then
        bif (A.inb i3 (A.vlen b2)) then
          c_112 (A.vget a1 i3 0) (A.vget a1 i3 1) (A.vget a1 i3 2) (A.vget b2 i3 0) (A.vget b2 i3 1) (A.vget b2 i3 2) (fun r4 =>
            bif (A.not r4) then
              kret_0 false
            else
              laws_eqHoldS_l0 A c_112 n a1 b2 (A.add .i64 i3 1) kret_0 kx0_0)
        else
          none
      else
        none
    else
      kx0_0 ()
noncomputable def laws_eqHoldS_f (A : PM.Prims) (c_112 : laws_eqHold_T) (a : List (List Int)) (b : List (List Int)) (k : (Bool) → PM.R) : PM.R :=
  bif (A.not (A.eq (A.vlen a) (A.vlen b))) then
    k false
  else
    laws_eqHoldS_l0 A c_112 A.fuel a b 0 (fun t456 =>
      k t456) (fun _ =>
      k true)
noncomputable def laws_eqHoldS (A : PM.Prims) : laws_eqHoldS_T := laws_eqHoldS_f A (laws_eqHold A)
noncomputable def laws_eqHoldS_L (A : PM.Prims) (c_112 : laws_eqHold_T) (n : Nat) : PM.Lam := fun cur σ K =>
  match cur, σ, K with
  | 0, ⟨[(0, .arr (.vecs 73 3 a1)), (1, .arr (.vecs 73 3 b2)), (5, .int .i64 i3)], []⟩, K => laws_eqHoldS_l0 A c_112 n a1 b2 i3 (fun t45 => K .ret ⟨[(4, .bool t45)], []⟩) (fun _ => K (.exit 0) ⟨[], []⟩)
  | _, _, _ => none
noncomputable def laws_eqHoldS_E (A : PM.Prims) (c_112 : laws_eqHold_T) : PM.Env := ⟨[(112, ⟨[], laws_eqHold_w c_112, none⟩)], [], [(0, [0, 1, 5], [4])], [(0, [0, 1]), (1, [0, 1, 10]), (2, [4]), (3, [0, 1, 5]), (4, [0, 1, 5, 14]), (5, [0, 1, 5]), (6, [0, 1, 5, 26]), (7, [4]), (8, [4])], laws_eqHoldS_L A c_112 A.fuel⟩
theorem laws_eqHoldS_l0_ok (A : PM.Prims) (c_112 : laws_eqHold_T) (n : Nat) (a1 : List (List Int)) (b2 : List (List Int)) (i3 : Int) (K : Go.Exit → PM.S → PM.R) : laws_eqHoldS_L A c_112 (n + 1) 0 ⟨[(0, .arr (.vecs 73 3 a1)), (1, .arr (.vecs 73 3 b2)), (5, .int .i64 i3)], []⟩ K = PM.roundF A cx (PM.runD A cx (laws_eqHoldS_E A c_112).inl (laws_eqHoldS_E A c_112).Γ 3) (laws_eqHoldS_E A c_112) (laws_eqHoldS_L A c_112 n) 0 Go.Proofs.Try.f40 ⟨[(0, .arr (.vecs 73 3 a1)), (1, .arr (.vecs 73 3 b2)), (5, .int .i64 i3)], []⟩ K := by kernel_rfl
theorem laws_eqHoldS_ok (A : PM.Prims) (c_112 : laws_eqHold_T) (a : List (List Int)) (b : List (List Int)) (k : PM.V → PM.R) : PM.pfun A cx [] (laws_eqHoldS_E A c_112) Go.Proofs.Try.f40 [.arr (.vecs 73 3 a), .arr (.vecs 73 3 b)] k = laws_eqHoldS_f A c_112 a b (fun r0 => k (.bool r0)) := by kernel_rfl

theorem laws_eqHoldS_fn : PM.FnIs Try.prog 40 Try.f40 := .of Try.func40 (by kernel_rfl) (by kernel_rfl)
theorem laws_eqHoldS_g : PM.GOk Try.prog cx 40 ⟨[], laws_eqHoldS_w (laws_eqHoldS PM.std), none⟩ := by
  refine ⟨laws_eqHoldS_fn.enter, fun _ ds k r h => ?_, fun hm => absurd rfl hm, fun _ e => (by cases e)⟩
  change laws_eqHoldS_w (laws_eqHoldS PM.std) ds k = some r at h
  unfold laws_eqHoldS_w at h
  split at h
  · exact PM.pfun_ok (E := laws_eqHoldS_E PM.std (laws_eqHold PM.std)) (L := fun n => laws_eqHoldS_L PM.std (laws_eqHold PM.std) n) (N := PM.std.fuel) cx_ok (.cons laws_eqHold_g .nil) mixed .nil laws_eqHoldS_fn (by kernel_rfl) ⟨rfl, fun cur σ K => by
      dsimp only [laws_eqHoldS_L]
      split <;> rfl, fun n cur σ K r h => by
      dsimp only [laws_eqHoldS_L] at h
      split at h
      · exact (laws_eqHoldS_l0_ok PM.std (laws_eqHold PM.std) n _ _ _ K).symm.trans h
      · cases h⟩
      ((laws_eqHoldS_ok PM.std (laws_eqHold PM.std) _ _ k).trans h)
  · cases h

abbrev laws_FnExactHoldsOk_T := (List (List Int)) → ((Bool) → PM.R) → PM.R
noncomputable def laws_FnExactHoldsOk_w (c : laws_FnExactHoldsOk_T) (ds : List PM.V) (k : PM.V → PM.R) : PM.R :=
  match ds with
  | [.arr (.vecs 124 3 aL)] => c aL (fun r0 => k (.bool r0))
  | _ => none
noncomputable def laws_FnExactHoldsOk_f (A : PM.Prims) (c_36 : laws_szHoldS_T) (c_38 : laws_toHoldS_T) (c_37 : spec_HoldsOk_T) (c_39 : impl_HoldsOk_T) (c_40 : laws_eqHoldS_T) (aL : List (List Int)) (k : (Bool) → PM.R) : PM.R :=
  c_36 aL 1048576 (fun r1 =>
    bif (A.lt r1 0) then
      k true
    else
      c_38 aL (fun r2 =>
        c_37 r2 (fun r3 =>
          c_38 aL (fun r4 =>
            c_39 r4 (fun r5 =>
              bif (A.not (A.beq r5 r3)) then
                k false
              else
                c_38 aL (fun r6 =>
                  c_40 r4 r6 (fun r7 =>
                    bif (A.not r7) then
                      k false
                    else
                      k true)))))))
noncomputable def laws_FnExactHoldsOk (A : PM.Prims) : laws_FnExactHoldsOk_T := laws_FnExactHoldsOk_f A (laws_szHoldS A) (laws_toHoldS A) (spec_HoldsOk A) (impl_HoldsOk A) (laws_eqHoldS A)
noncomputable def laws_FnExactHoldsOk_L (A : PM.Prims) (c_36 : laws_szHoldS_T) (c_38 : laws_toHoldS_T) (c_37 : spec_HoldsOk_T) (c_39 : impl_HoldsOk_T) (c_40 : laws_eqHoldS_T) (n : Nat) : PM.Lam := fun cur σ K =>
  match cur, σ, K with
  | _, _, _ => none
noncomputable def laws_FnExactHoldsOk_E (A : PM.Prims) (c_36 : laws_szHoldS_T) (c_38 : laws_toHoldS_T) (c_37 : spec_HoldsOk_T) (c_39 : impl_HoldsOk_T) (c_40 : laws_eqHoldS_T) : PM.Env := ⟨[(36, ⟨[], laws_szHoldS_w c_36, none⟩), (38, ⟨[], laws_toHoldS_w c_38, none⟩), (37, ⟨[], spec_HoldsOk_w c_37, none⟩), (39, ⟨[], impl_HoldsOk_w c_39, none⟩), (40, ⟨[], laws_eqHoldS_w c_40, none⟩)], [], [], [(0, [0]), (1, [0, 3]), (2, [0, 3]), (3, [0, 11]), (4, [2]), (5, [0, 4]), (6, [0, 4, 5]), (7, [0, 4, 5, 6]), (8, [0, 5, 21]), (9, [2]), (10, [26]), (11, [2]), (12, [2])], laws_FnExactHoldsOk_L A c_36 c_38 c_37 c_39 c_40 A.fuel⟩
theorem laws_FnExactHoldsOk_ok (A : PM.Prims) (c_36 : laws_szHoldS_T) (c_38 : laws_toHoldS_T) (c_37 : spec_HoldsOk_T) (c_39 : impl_HoldsOk_T) (c_40 : laws_eqHoldS_T) (aL : List (List Int)) (k : PM.V → PM.R) : PM.pfun A cx [] (laws_FnExactHoldsOk_E A c_36 c_38 c_37 c_39 c_40) Go.Proofs.Try.f7 [.arr (.vecs 124 3 aL)] k = laws_FnExactHoldsOk_f A c_36 c_38 c_37 c_39 c_40 aL (fun r0 => k (.bool r0)) := by kernel_rfl

theorem laws_FnExactHoldsOk_fn : PM.FnIs Try.prog 7 Try.f7 := .of Try.func7 (by kernel_rfl) (by kernel_rfl)
theorem laws_FnExactHoldsOk_g : PM.GOk Try.prog cx 7 ⟨[], laws_FnExactHoldsOk_w (laws_FnExactHoldsOk PM.std), none⟩ := by
  refine ⟨laws_FnExactHoldsOk_fn.enter, fun _ ds k r h => ?_, fun hm => absurd rfl hm, fun _ e => (by cases e)⟩
  change laws_FnExactHoldsOk_w (laws_FnExactHoldsOk PM.std) ds k = some r at h
  unfold laws_FnExactHoldsOk_w at h
  split at h
  · exact PM.pfun_ok (E := laws_FnExactHoldsOk_E PM.std (laws_szHoldS PM.std) (laws_toHoldS PM.std) (spec_HoldsOk PM.std) (impl_HoldsOk PM.std) (laws_eqHoldS PM.std)) (L := fun n => laws_FnExactHoldsOk_L PM.std (laws_szHoldS PM.std) (laws_toHoldS PM.std) (spec_HoldsOk PM.std) (impl_HoldsOk PM.std) (laws_eqHoldS PM.std) n) (N := PM.std.fuel) cx_ok (.cons laws_szHoldS_g (.cons laws_toHoldS_g (.cons spec_HoldsOk_g (.cons impl_HoldsOk_g (.cons laws_eqHoldS_g .nil))))) mixed .nil laws_FnExactHoldsOk_fn (by kernel_rfl) ⟨rfl, fun _ _ _ => rfl, fun n cur σ K r h => by cases h⟩
      ((laws_FnExactHoldsOk_ok PM.std (laws_szHoldS PM.std) (laws_toHoldS PM.std) (spec_HoldsOk PM.std) (impl_HoldsOk PM.std) (laws_eqHoldS PM.std) _ k).trans h)
  · cases h

abbrev spec_HoldOf_T := (List (List Int)) → (Int) → (Int) → ((Int) → PM.R) → PM.R
noncomputable def spec_HoldOf_w (c : spec_HoldOf_T) (ds : List PM.V) (k : PM.V → PM.R) : PM.R :=
  match ds with
  | [.arr (.vecs 73 3 l), .int .i64 who, .int .i64 what] => c l who what (fun r0 => k (.int .i64 r0))
  | _ => none
noncomputable def spec_HoldOf_l0 (A : PM.Prims) (c_37 : spec_HoldsOk_T) : Nat → (List (List Int)) → (Int) → (Int) → (Int) → ((Int) → PM.R) → (Unit → PM.R) → PM.R
  | 0, _, _, _, _, _, _ => none
  | n + 1, l2, who3, what4, i5, kret_0, kx0_0 =>
    bif (A.lt i5 (A.vlen l2)) then
      bif (A.inb i5 (A.vlen l2)) then
        bif (A.eq (A.vget l2 i5 0) who3) then
          bif (A.inb i5 (A.vlen l2)) then
            bif (A.eq (A.vget l2 i5 1) what4) then
              bif (A.inb i5 (A.vlen l2)) then
                kret_0 (A.vget l2 i5 2)
              else
                none
            else
              spec_HoldOf_l0 A c_37 n l2 who3 what4 (A.add .i64 i5 1) kret_0 kx0_0
          else
            none
        else
          spec_HoldOf_l0 A c_37 n l2 who3 what4 (A.add .i64 i5 1) kret_0 kx0_0
      else
        none
    else
      kx0_0 ()
noncomputable def spec_HoldOf_f (A : PM.Prims) (c_37 : spec_HoldsOk_T) (l : List (List Int)) (who : Int) (what : Int) (k : (Int) → PM.R) : PM.R :=
  c_37 l (fun r1 =>
    bif (A.not r1) then
      k 0
    else
      spec_HoldOf_l0 A c_37 A.fuel l who what 0 (fun t667 =>
        k t667) (fun _ =>
        k 0))
noncomputable def spec_HoldOf (A : PM.Prims) : spec_HoldOf_T := spec_HoldOf_f A (spec_HoldsOk A)
noncomputable def spec_HoldOf_L (A : PM.Prims) (c_37 : spec_HoldsOk_T) (n : Nat) : PM.Lam := fun cur σ K =>
  match cur, σ, K with
  | 0, ⟨[(0, .arr (.vecs 73 3 l2)), (1, .int .i64 who3), (2, .int .i64 what4), (7, .int .i64 i5)], []⟩, K => spec_HoldOf_l0 A c_37 n l2 who3 what4 i5 (fun t66 => K .ret ⟨[(6, .int .i64 t66)], []⟩) (fun _ => K (.exit 0) ⟨[], []⟩)
  | _, _, _ => none
noncomputable def spec_HoldOf_E (A : PM.Prims) (c_37 : spec_HoldsOk_T) : PM.Env := ⟨[(37, ⟨[], spec_HoldsOk_w c_37, none⟩)], [], [(0, [0, 1, 2, 7], [6])], [(0, [0, 1, 2]), (1, [0, 1, 2, 10]), (2, [6]), (3, [0, 1, 2, 7]), (4, [0, 1, 2, 7, 14]), (5, [0, 1, 2, 7]), (6, [0, 1, 2, 7, 32]), (7, [6]), (8, [6])], spec_HoldOf_L A c_37 A.fuel⟩
theorem spec_HoldOf_l0_ok (A : PM.Prims) (c_37 : spec_HoldsOk_T) (n : Nat) (l2 : List (List Int)) (who3 : Int) (what4 : Int) (i5 : Int) (K : Go.Exit → PM.S → PM.R) : spec_HoldOf_L A c_37 (n + 1) 0 ⟨[(0, .arr (.vecs 73 3 l2)), (1, .int .i64 who3), (2, .int .i64 what4), (7, .int .i64 i5)], []⟩ K = PM.roundF A cx (PM.runD A cx (spec_HoldOf_E A c_37).inl (spec_HoldOf_E A c_37).Γ 3) (spec_HoldOf_E A c_37) (spec_HoldOf_L A c_37 n) 0 Go.Proofs.Try.f41 ⟨[(0, .arr (.vecs 73 3 l2)), (1, .int .i64 who3), (2, .int .i64 what4), (7, .int .i64 i5)], []⟩ K := by kernel_rfl
theorem spec_HoldOf_ok (A : PM.Prims) (c_37 : spec_HoldsOk_T) (l : List (List Int)) (who : Int) (what : Int) (k : PM.V → PM.R) : PM.pfun A cx [] (spec_HoldOf_E A c_37) Go.Proofs.Try.f41 [.arr (.vecs 73 3 l), .int .i64 who, .int .i64 what] k = spec_HoldOf_f A c_37 l who what (fun r0 => k (.int .i64 r0)) := by kernel_rfl

theorem spec_HoldOf_fn : PM.FnIs Try.prog 41 Try.f41 := .of Try.func41 (by kernel_rfl) (by kernel_rfl)
theorem spec_HoldOf_g : PM.GOk Try.prog cx 41 ⟨[], spec_HoldOf_w (spec_HoldOf PM.std), none⟩ := by
  refine ⟨spec_HoldOf_fn.enter, fun _ ds k r h => ?_, fun hm => absurd rfl hm, fun _ e => (by cases e)⟩
  change spec_HoldOf_w (spec_HoldOf PM.std) ds k = some r at h
  unfold spec_HoldOf_w at h
  split at h
  · exact PM.pfun_ok (E := spec_HoldOf_E PM.std (spec_HoldsOk PM.std)) (L := fun n => spec_HoldOf_L PM.std (spec_HoldsOk PM.std) n) (N := PM.std.fuel) cx_ok (.cons spec_HoldsOk_g .nil) mixed .nil spec_HoldOf_fn (by kernel_rfl) ⟨rfl, fun cur σ K => by
      dsimp only [spec_HoldOf_L]
      split <;> rfl, fun n cur σ K r h => by
      dsimp only [spec_HoldOf_L] at h
      split at h
      · exact (spec_HoldOf_l0_ok PM.std (spec_HoldsOk PM.std) n _ _ _ _ K).symm.trans h
      · cases h⟩
      ((spec_HoldOf_ok PM.std (spec_HoldsOk PM.std) _ _ _ k).trans h)
  · cases h

abbrev impl_HoldOf_T := (List (List Int)) → (Int) → (Int) → ((Int) → PM.R) → PM.R
noncomputable def impl_HoldOf_w (c : impl_HoldOf_T) (ds : List PM.V) (k : PM.V → PM.R) : PM.R :=
  match ds with
  | [.arr (.vecs 73 3 l), .int .i64 who, .int .i64 what] => c l who what (fun r0 => k (.int .i64 r0))
  | _ => none
noncomputable def impl_HoldOf_l0 (A : PM.Prims) (c_39 : impl_HoldsOk_T) : Nat → (Int) → (Int) → (List (List Int)) → (Int) → (Int) → ((Int) → PM.R) → (Unit → PM.R) → PM.R
  | 0, _, _, _, _, _, _, _ => none
  | n + 1, who2, what3, t124, t135, t146, kret_0, kx0_0 =>
    bif (A.lt t146 t135) then
      bif (A.inb t146 (A.vlen t124)) then
        bif (A.eq (A.vget t124 t146 0) who2) then
          bif (A.eq (A.vget t124 t146 1) what3) then
            kret_0 (A.vget t124 t146 2)
          else
            impl_HoldOf_l0 A c_39 n who2 what3 t124 t135 (A.add .i64 t146 1) kret_0 kx0_0
        else
          impl_HoldOf_l0 A c_39 n who2 what3 t124 t135 (A.add .i64 t146 1) kret_0 kx0_0
      else
        none
    else
      kx0_0 ()
noncomputable def impl_HoldOf_f (A : PM.Prims) (c_39 : impl_HoldsOk_T) (l : List (List Int)) (who : Int) (what : Int) (k : (Int) → PM.R) : PM.R :=
  c_39 l (fun r1 =>
    bif (A.not r1) then
      k 0
    else
      impl_HoldOf_l0 A c_39 A.fuel who what l (A.vlen l) 0 (fun t678 =>
        k t678) (fun _ =>
        k 0))
noncomputable def impl_HoldOf (A : PM.Prims) : impl_HoldOf_T := impl_HoldOf_f A (impl_HoldsOk A)
noncomputable def impl_HoldOf_L (A : PM.Prims) (c_39 : impl_HoldsOk_T) (n : Nat) : PM.Lam := fun cur σ K =>
  match cur, σ, K with
  | 0, ⟨[(1, .int .i64 who2), (2, .int .i64 what3), (12, .arr (.vecs 73 3 t124)), (13, .int .i64 t135), (14, .int .i64 t146)], []⟩, K => impl_HoldOf_l0 A c_39 n who2 what3 t124 t135 t146 (fun t67 => K .ret ⟨[(6, .int .i64 t67)], []⟩) (fun _ => K (.exit 0) ⟨[], []⟩)
  | _, _, _ => none
noncomputable def impl_HoldOf_E (A : PM.Prims) (c_39 : impl_HoldsOk_T) : PM.Env := ⟨[(39, ⟨[], impl_HoldsOk_w c_39, none⟩)], [], [(0, [1, 2, 12, 13, 14], [6])], [(0, [0, 1, 2]), (1, [0, 1, 2, 11]), (2, [6]), (3, [1, 2, 12, 13, 14]), (4, [1, 2, 12, 13, 14, 15]), (5, [1, 2, 8, 12, 13, 14]), (6, [1, 2, 8, 12, 13, 14, 27]), (7, [6]), (8, [1, 2, 12, 13, 14]), (9, [6])], impl_HoldOf_L A c_39 A.fuel⟩
theorem impl_HoldOf_l0_ok (A : PM.Prims) (c_39 : impl_HoldsOk_T) (n : Nat) (who2 : Int) (what3 : Int) (t124 : List (List Int)) (t135 : Int) (t146 : Int) (K : Go.Exit → PM.S → PM.R) : impl_HoldOf_L A c_39 (n + 1) 0 ⟨[(1, .int .i64 who2), (2, .int .i64 what3), (12, .arr (.vecs 73 3 t124)), (13, .int .i64 t135), (14, .int .i64 t146)], []⟩ K = PM.roundF A cx (PM.runD A cx (impl_HoldOf_E A c_39).inl (impl_HoldOf_E A c_39).Γ 3) (impl_HoldOf_E A c_39) (impl_HoldOf_L A c_39 n) 0 Go.Proofs.Try.f42 ⟨[(1, .int .i64 who2), (2, .int .i64 what3), (12, .arr (.vecs 73 3 t124)), (13, .int .i64 t135), (14, .int .i64 t146)], []⟩ K := by kernel_rfl
theorem impl_HoldOf_ok (A : PM.Prims) (c_39 : impl_HoldsOk_T) (l : List (List Int)) (who : Int) (what : Int) (k : PM.V → PM.R) : PM.pfun A cx [] (impl_HoldOf_E A c_39) Go.Proofs.Try.f42 [.arr (.vecs 73 3 l), .int .i64 who, .int .i64 what] k = impl_HoldOf_f A c_39 l who what (fun r0 => k (.int .i64 r0)) := by kernel_rfl

theorem impl_HoldOf_fn : PM.FnIs Try.prog 42 Try.f42 := .of Try.func42 (by kernel_rfl) (by kernel_rfl)
theorem impl_HoldOf_g : PM.GOk Try.prog cx 42 ⟨[], impl_HoldOf_w (impl_HoldOf PM.std), none⟩ := by
  refine ⟨impl_HoldOf_fn.enter, fun _ ds k r h => ?_, fun hm => absurd rfl hm, fun _ e => (by cases e)⟩
  change impl_HoldOf_w (impl_HoldOf PM.std) ds k = some r at h
  unfold impl_HoldOf_w at h
  split at h
  · exact PM.pfun_ok (E := impl_HoldOf_E PM.std (impl_HoldsOk PM.std)) (L := fun n => impl_HoldOf_L PM.std (impl_HoldsOk PM.std) n) (N := PM.std.fuel) cx_ok (.cons impl_HoldsOk_g .nil) mixed .nil impl_HoldOf_fn (by kernel_rfl) ⟨rfl, fun cur σ K => by
      dsimp only [impl_HoldOf_L]
      split <;> rfl, fun n cur σ K r h => by
      dsimp only [impl_HoldOf_L] at h
      split at h
      · exact (impl_HoldOf_l0_ok PM.std (impl_HoldsOk PM.std) n _ _ _ _ _ K).symm.trans h
      · cases h⟩
      ((impl_HoldOf_ok PM.std (impl_HoldsOk PM.std) _ _ _ k).trans h)
  · cases h

abbrev laws_FnExactHoldOf_T := (List (List Int)) → (Int) → (Int) → ((Bool) → PM.R) → PM.R
noncomputable def laws_FnExactHoldOf_w (c : laws_FnExactHoldOf_T) (ds : List PM.V) (k : PM.V → PM.R) : PM.R :=
  match ds with
  | [.arr (.vecs 124 3 aL), .int .i64 aWho, .int .i64 aWhat] => c aL aWho aWhat (fun r0 => k (.bool r0))
  | _ => none
noncomputable def laws_FnExactHoldOf_f (A : PM.Prims) (c_36 : laws_szHoldS_T) (c_38 : laws_toHoldS_T) (c_40 : laws_eqHoldS_T) (c_41 : spec_HoldOf_T) (c_42 : impl_HoldOf_T) (aL : List (List Int)) (aWho : Int) (aWhat : Int) (k : (Bool) → PM.R) : PM.R :=
  c_36 aL 1048576 (fun r1 =>
    bif (A.lt r1 0) then
      k true
    else
      c_38 aL (fun r2 =>
        c_41 r2 aWho aWhat (fun r3 =>
          c_38 aL (fun r4 =>
            c_42 r4 aWho aWhat (fun r5 =>
              bif (A.not (A.eq r5 r3)) then
                k false
              else
                c_38 aL (fun r6 =>
                  c_40 r4 r6 (fun r7 =>
                    bif (A.not r7) then
                      k false
                    else
                      k true)))))))
noncomputable def laws_FnExactHoldOf (A : PM.Prims) : laws_FnExactHoldOf_T := laws_FnExactHoldOf_f A (laws_szHoldS A) (laws_toHoldS A) (laws_eqHoldS A) (spec_HoldOf A) (impl_HoldOf A)
noncomputable def laws_FnExactHoldOf_L (A : PM.Prims) (c_36 : laws_szHoldS_T) (c_38 : laws_toHoldS_T) (c_40 : laws_eqHoldS_T) (c_41 : spec_HoldOf_T) (c_42 : impl_HoldOf_T) (n : Nat) : PM.Lam := fun cur σ K =>
  match cur, σ, K with
  | _, _, _ => none
noncomputable def laws_FnExactHoldOf_E (A : PM.Prims) (c_36 : laws_szHoldS_T) (c_38 : laws_toHoldS_T) (c_40 : laws_eqHoldS_T) (c_41 : spec_HoldOf_T) (c_42 : impl_HoldOf_T) : PM.Env := ⟨[(36, ⟨[], laws_szHoldS_w c_36, none⟩), (38, ⟨[], laws_toHoldS_w c_38, none⟩), (40, ⟨[], laws_eqHoldS_w c_40, none⟩), (41, ⟨[], spec_HoldOf_w c_41, none⟩), (42, ⟨[], impl_HoldOf_w c_42, none⟩)], [], [], [(0, [0, 1, 2]), (1, [0, 1, 2, 7]), (2, [0, 1, 2, 7]), (3, [0, 1, 2, 15]), (4, [6]), (5, [0, 1, 2, 8]), (6, [0, 1, 2, 8, 9]), (7, [0, 8, 9, 10]), (8, [0, 9, 29]), (9, [6]), (10, [34]), (11, [6]), (12, [6])], laws_FnExactHoldOf_L A c_36 c_38 c_40 c_41 c_42 A.fuel⟩
theorem laws_FnExactHoldOf_ok (A : PM.Prims) (c_36 : laws_szHoldS_T) (c_38 : laws_toHoldS_T) (c_40 : laws_eqHoldS_T) (c_41 : spec_HoldOf_T) (c_42 : impl_HoldOf_T) (aL : List (List Int)) (aWho : Int) (aWhat : Int) (k : PM.V → PM.R) : PM.pfun A cx [] (laws_FnExactHoldOf_E A c_36 c_38 c_40 c_41 c_42) Go.Proofs.Try.f8 [.arr (.vecs 124 3 aL), .int .i64 aWho, .int .i64 aWhat] k = laws_FnExactHoldOf_f A c_36 c_38 c_40 c_41 c_42 aL aWho aWhat (fun r0 => k (.bool r0)) := by kernel_rfl

theorem laws_FnExactHoldOf_fn : PM.FnIs Try.prog 8 Try.f8 := .of Try.func8 (by kernel_rfl) (by kernel_rfl)
theorem laws_FnExactHoldOf_g : PM.GOk Try.prog cx 8 ⟨[], laws_FnExactHoldOf_w (laws_FnExactHoldOf PM.std), none⟩ := by
  refine ⟨laws_FnExactHoldOf_fn.enter, fun _ ds k r h => ?_, fun hm => absurd rfl hm, fun _ e => (by cases e)⟩
  change laws_FnExactHoldOf_w (laws_FnExactHoldOf PM.std) ds k = some r at h
  unfold laws_FnExactHoldOf_w at h
  split at h
  · exact PM.pfun_ok (E := laws_FnExactHoldOf_E PM.std (laws_szHoldS PM.std) (laws_toHoldS PM.std) (laws_eqHoldS PM.std) (spec_HoldOf PM.std) (impl_HoldOf PM.std)) (L := fun n => laws_FnExactHoldOf_L PM.std (laws_szHoldS PM.std) (laws_toHoldS PM.std) (laws_eqHoldS PM.std) (spec_HoldOf PM.std) (impl_HoldOf PM.std) n) (N := PM.std.fuel) cx_ok (.cons laws_szHoldS_g (.cons laws_toHoldS_g (.cons laws_eqHoldS_g (.cons spec_HoldOf_g (.cons impl_HoldOf_g .nil))))) mixed .nil laws_FnExactHoldOf_fn (by kernel_rfl) ⟨rfl, fun _ _ _ => rfl, fun n cur σ K r h => by cases h⟩
      ((laws_FnExactHoldOf_ok PM.std (laws_szHoldS PM.std) (laws_toHoldS PM.std) (laws_eqHoldS PM.std) (spec_HoldOf PM.std) (impl_HoldOf PM.std) _ _ _ k).trans h)
  · cases h

end X
