/- Models of the functions, or plain laws about them; each theorem states its own conditions. -/
import Derived.Test.YtnkgcegeinemjaaL3
import Derived.Test.YtnkgcegeinemjaaProg
import Derived.KernelRfl
set_option linter.unusedVariables false
set_option linter.unusedSimpArgs false
open Go.Proofs
namespace X
open PM
set_option maxRecDepth 100000
set_option maxHeartbeats 4000000
noncomputable def cx : PM.Cx := [
  (2, ⟨1, false, [.int .i64 0], none, 0, none, [], [], [], [.int .i64], false⟩),
  (3, ⟨1, false, [.int .i64 0], none, 0, none, [], [], [], [.int .i64], false⟩),
  (4, ⟨1, false, [.bool false], none, 0, none, [], [], [], [.bool], false⟩),
  (5, ⟨1, false, [.int .u8 0], none, 0, none, [], [], [], [.int .u8], false⟩),
  (6, ⟨1, false, [.int .u8 0], none, 0, none, [], [], [], [.int .u8], false⟩),
  (7, ⟨4, true, [.int .i64 0, .int .i64 0, .bool false, .int .u8 0], none, 0, none, [0, 1, 2, 3], [1, 1, 1, 1], [2, 3, 4, 6], [.int .i64, .int .i64, .bool, .int .u8], true⟩),
  (8, ⟨4, true, [.int .i64 0, .int .i64 0, .bool false, .int .u8 0], none, 0, none, [0, 1, 2, 3], [1, 1, 1, 1], [2, 3, 4, 6], [.int .i64, .int .i64, .bool, .int .u8], true⟩),
  (12, ⟨1, false, [.int .u64 0], none, 0, none, [], [], [], [.int .u64], false⟩),
  (21, ⟨1, false, [.int .i32 0], none, 0, none, [], [], [], [.int .i32], false⟩),
  (22, ⟨4, true, [.int .i64 0, .int .i64 0, .int .i64 0, .int .i64 0], none, 0, none, [0, 1, 2, 3], [1, 1, 1, 1], [3, 3, 3, 3], [.int .i64, .int .i64, .int .i64, .int .i64], true⟩),
  (23, ⟨4, true, [.int .i64 0, .int .i64 0, .int .i64 0, .int .i64 0], none, 0, none, [0, 1, 2, 3], [1, 1, 1, 1], [3, 3, 3, 3], [.int .i64, .int .i64, .int .i64, .int .i64], true⟩),
  (25, ⟨4, true, [.int .i64 0, .int .i64 0, .int .i64 0, .int .i64 0], none, 0, none, [0, 1, 2, 3], [1, 1, 1, 1], [3, 3, 3, 3], [.int .i64, .int .i64, .int .i64, .int .i64], true⟩),
  (32, ⟨1, false, [.arr (.emp (.vecs 155 3))], some (.vecs 155 3), 3, none, [], [], [], [.sl 32], false⟩),
  (33, ⟨2, true, [.int .i64 0, .arr (.emp (.vecs 155 3))], none, 0, none, [0, 1], [1, 1], [3, 32], [.int .i64, .sl 32], false⟩),
  (34, ⟨2, true, [.int .i64 0, .arr (.emp (.vecs 155 3))], none, 0, none, [0, 1], [1, 1], [3, 32], [.int .i64, .sl 32], false⟩),
  (37, ⟨1, false, [.arr (.emp (.vecs 49 3))], some (.vecs 49 3), 3, none, [], [], [], [.sl 37], false⟩),
  (38, ⟨2, true, [.int .i64 0, .arr (.emp (.vecs 49 3))], none, 0, none, [0, 1], [1, 1], [3, 37], [.int .i64, .sl 37], false⟩),
  (39, ⟨2, true, [.int .i64 0, .arr (.emp (.vecs 49 3))], none, 0, none, [0, 1], [1, 1], [3, 37], [.int .i64, .sl 37], false⟩),
  (43, ⟨1, false, [.arr (.emp (.ints 5 .u8))], some (.ints 5 .u8), 1, none, [], [], [], [.sl 43], false⟩),
  (48, ⟨3, true, [.int .i64 0, .int .i64 0, .int .i64 0], none, 0, none, [0, 1, 2], [1, 1, 1], [3, 3, 3], [.int .i64, .int .i64, .int .i64], true⟩),
  (49, ⟨3, true, [.int .i64 0, .int .i64 0, .int .i64 0], none, 0, none, [0, 1, 2], [1, 1, 1], [3, 3, 3], [.int .i64, .int .i64, .int .i64], true⟩),
  (50, ⟨1, false, [.arr (.emp (.vecs 124 3))], some (.vecs 124 3), 3, none, [], [], [], [.sl 50], false⟩),
  (53, ⟨1, false, [.arr (.emp (.vecs 73 3))], some (.vecs 73 3), 3, none, [], [], [], [.sl 53], false⟩),
  (59, ⟨1, false, [.arr (.emp (.ints 3 .i64))], some (.ints 3 .i64), 1, none, [], [], [], [.sl 59], false⟩),
  (72, ⟨3, true, [.int .i64 0, .int .i64 0, .int .i64 0], none, 0, none, [0, 1, 2], [1, 1, 1], [3, 3, 3], [.int .i64, .int .i64, .int .i64], true⟩),
  (73, ⟨3, true, [.int .i64 0, .int .i64 0, .int .i64 0], none, 0, none, [0, 1, 2], [1, 1, 1], [3, 3, 3], [.int .i64, .int .i64, .int .i64], true⟩),
  (75, ⟨1, false, [.arr (.emp (.vecs 139 2))], some (.vecs 139 2), 2, none, [], [], [], [.sl 75], false⟩),
  (76, ⟨7, true, [.int .i64 0, .int .i64 0, .int .i64 0, .int .i64 0, .int .i64 0, .arr (.emp (.vecs 139 2)), .arr (.emp (.ints 3 .i64))], none, 0, none, [0, 1, 2, 3, 4, 5, 6], [1, 1, 1, 1, 1, 1, 1], [3, 3, 3, 3, 3, 75, 59], [.int .i64, .int .i64, .int .i64, .int .i64, .int .i64, .sl 75, .sl 59], false⟩),
  (77, ⟨7, true, [.int .i64 0, .int .i64 0, .int .i64 0, .int .i64 0, .int .i64 0, .arr (.emp (.vecs 139 2)), .arr (.emp (.ints 3 .i64))], none, 0, none, [0, 1, 2, 3, 4, 5, 6], [1, 1, 1, 1, 1, 1, 1], [3, 3, 3, 3, 3, 75, 59], [.int .i64, .int .i64, .int .i64, .int .i64, .int .i64, .sl 75, .sl 59], false⟩),
  (80, ⟨1, false, [.arr (.emp (.vecs 135 2))], some (.vecs 135 2), 2, none, [], [], [], [.sl 80], false⟩),
  (81, ⟨7, true, [.int .i64 0, .int .i64 0, .int .i64 0, .int .i64 0, .int .i64 0, .arr (.emp (.vecs 135 2)), .arr (.emp (.ints 3 .i64))], none, 0, none, [0, 1, 2, 3, 4, 5, 6], [1, 1, 1, 1, 1, 1, 1], [3, 3, 3, 3, 3, 80, 59], [.int .i64, .int .i64, .int .i64, .int .i64, .int .i64, .sl 80, .sl 59], false⟩),
  (82, ⟨7, true, [.int .i64 0, .int .i64 0, .int .i64 0, .int .i64 0, .int .i64 0, .arr (.emp (.vecs 135 2)), .arr (.emp (.ints 3 .i64))], none, 0, none, [0, 1, 2, 3, 4, 5, 6], [1, 1, 1, 1, 1, 1, 1], [3, 3, 3, 3, 3, 80, 59], [.int .i64, .int .i64, .int .i64, .int .i64, .int .i64, .sl 80, .sl 59], false⟩),
  (124, ⟨3, true, [.int .i64 0, .int .i64 0, .int .i64 0], none, 0, none, [0, 1, 2], [1, 1, 1], [3, 3, 3], [.int .i64, .int .i64, .int .i64], true⟩),
  (134, ⟨2, true, [.int .i64 0, .int .i64 0], none, 0, none, [0, 1], [1, 1], [3, 3], [.int .i64, .int .i64], true⟩),
  (135, ⟨2, true, [.int .i64 0, .int .i64 0], none, 0, none, [0, 1], [1, 1], [3, 3], [.int .i64, .int .i64], true⟩),
  (139, ⟨2, true, [.int .i64 0, .int .i64 0], none, 0, none, [0, 1], [1, 1], [3, 3], [.int .i64, .int .i64], true⟩),
  (155, ⟨3, true, [.int .i64 0, .int .i64 0, .int .i64 0], none, 0, none, [0, 1, 2], [1, 1, 1], [3, 3, 3], [.int .i64, .int .i64, .int .i64], true⟩),
  (157, ⟨3, true, [.arr (.emp (.ints 5 .u8)), .int .i64 0, .int .i64 0], none, 0, none, [0, 1, 2], [1, 1, 1], [43, 3, 3], [.sl 43, .int .i64, .int .i64], false⟩),
  (158, ⟨3, true, [.arr (.emp (.ints 5 .u8)), .int .i64 0, .int .i64 0], none, 0, none, [0, 1, 2], [1, 1, 1], [43, 3, 3], [.sl 43, .int .i64, .int .i64], false⟩),
  (163, ⟨1, false, [.int .u64 0], none, 0, none, [], [], [], [.int .u64], false⟩),
  (168, ⟨1, false, [.int .i64 0], none, 0, none, [], [], [], [.int .i64], false⟩),
  (175, ⟨1, false, [.int .u32 0], none, 0, none, [], [], [], [.int .u32], false⟩),
  (177, ⟨1, false, [.int .u64 0], none, 0, none, [], [], [], [.int .u64], false⟩),
  (178, ⟨1, false, [.int .u64 0], none, 0, none, [], [], [], [.int .u64], false⟩),
  (193, ⟨1, false, [.int .u8 0], none, 0, none, [], [], [], [.int .u8], false⟩),
  (194, ⟨1, false, [.int .u8 0], none, 0, none, [], [], [], [.int .u8], false⟩),
  (197, ⟨1, false, [.int .i32 0], none, 0, none, [], [], [], [.int .i32], false⟩),
  (198, ⟨1, false, [.int .i32 0], none, 0, none, [], [], [], [.int .i32], false⟩)]
theorem mixed : Try.prog.follows .mixedOrders = true := by kernel_rfl
theorem cx_ok : PM.CxOk Try.prog cx := PM.cxChk_ok (by kernel_rfl)
theorem cx_read : PM.CxRead Try.prog cx := PM.cxRead_ok (by kernel_rfl)

theorem cx_at2 : PM.find cx 2 = some ⟨1, false, [.int .i64 0], none, 0, none, [], [], [], [.int .i64], false⟩ := by kernel_rfl
theorem cx_at3 : PM.find cx 3 = some ⟨1, false, [.int .i64 0], none, 0, none, [], [], [], [.int .i64], false⟩ := by kernel_rfl
theorem cx_at4 : PM.find cx 4 = some ⟨1, false, [.bool false], none, 0, none, [], [], [], [.bool], false⟩ := by kernel_rfl
theorem cx_at5 : PM.find cx 5 = some ⟨1, false, [.int .u8 0], none, 0, none, [], [], [], [.int .u8], false⟩ := by kernel_rfl
theorem cx_at6 : PM.find cx 6 = some ⟨1, false, [.int .u8 0], none, 0, none, [], [], [], [.int .u8], false⟩ := by kernel_rfl
theorem cx_at7 : PM.find cx 7 = some ⟨4, true, [.int .i64 0, .int .i64 0, .bool false, .int .u8 0], none, 0, none, [0, 1, 2, 3], [1, 1, 1, 1], [2, 3, 4, 6], [.int .i64, .int .i64, .bool, .int .u8], true⟩ := by kernel_rfl
theorem cx_at8 : PM.find cx 8 = some ⟨4, true, [.int .i64 0, .int .i64 0, .bool false, .int .u8 0], none, 0, none, [0, 1, 2, 3], [1, 1, 1, 1], [2, 3, 4, 6], [.int .i64, .int .i64, .bool, .int .u8], true⟩ := by kernel_rfl
theorem cx_at12 : PM.find cx 12 = some ⟨1, false, [.int .u64 0], none, 0, none, [], [], [], [.int .u64], false⟩ := by kernel_rfl
theorem cx_at21 : PM.find cx 21 = some ⟨1, false, [.int .i32 0], none, 0, none, [], [], [], [.int .i32], false⟩ := by kernel_rfl
theorem cx_at22 : PM.find cx 22 = some ⟨4, true, [.int .i64 0, .int .i64 0, .int .i64 0, .int .i64 0], none, 0, none, [0, 1, 2, 3], [1, 1, 1, 1], [3, 3, 3, 3], [.int .i64, .int .i64, .int .i64, .int .i64], true⟩ := by kernel_rfl
theorem cx_at23 : PM.find cx 23 = some ⟨4, true, [.int .i64 0, .int .i64 0, .int .i64 0, .int .i64 0], none, 0, none, [0, 1, 2, 3], [1, 1, 1, 1], [3, 3, 3, 3], [.int .i64, .int .i64, .int .i64, .int .i64], true⟩ := by kernel_rfl
theorem cx_at25 : PM.find cx 25 = some ⟨4, true, [.int .i64 0, .int .i64 0, .int .i64 0, .int .i64 0], none, 0, none, [0, 1, 2, 3], [1, 1, 1, 1], [3, 3, 3, 3], [.int .i64, .int .i64, .int .i64, .int .i64], true⟩ := by kernel_rfl
theorem cx_at32 : PM.find cx 32 = some ⟨1, false, [.arr (.emp (.vecs 155 3))], some (.vecs 155 3), 3, none, [], [], [], [.sl 32], false⟩ := by kernel_rfl
theorem cx_at33 : PM.find cx 33 = some ⟨2, true, [.int .i64 0, .arr (.emp (.vecs 155 3))], none, 0, none, [0, 1], [1, 1], [3, 32], [.int .i64, .sl 32], false⟩ := by kernel_rfl
theorem cx_at34 : PM.find cx 34 = some ⟨2, true, [.int .i64 0, .arr (.emp (.vecs 155 3))], none, 0, none, [0, 1], [1, 1], [3, 32], [.int .i64, .sl 32], false⟩ := by kernel_rfl
theorem cx_at37 : PM.find cx 37 = some ⟨1, false, [.arr (.emp (.vecs 49 3))], some (.vecs 49 3), 3, none, [], [], [], [.sl 37], false⟩ := by kernel_rfl
theorem cx_at38 : PM.find cx 38 = some ⟨2, true, [.int .i64 0, .arr (.emp (.vecs 49 3))], none, 0, none, [0, 1], [1, 1], [3, 37], [.int .i64, .sl 37], false⟩ := by kernel_rfl
theorem cx_at39 : PM.find cx 39 = some ⟨2, true, [.int .i64 0, .arr (.emp (.vecs 49 3))], none, 0, none, [0, 1], [1, 1], [3, 37], [.int .i64, .sl 37], false⟩ := by kernel_rfl
theorem cx_at43 : PM.find cx 43 = some ⟨1, false, [.arr (.emp (.ints 5 .u8))], some (.ints 5 .u8), 1, none, [], [], [], [.sl 43], false⟩ := by kernel_rfl
theorem cx_at48 : PM.find cx 48 = some ⟨3, true, [.int .i64 0, .int .i64 0, .int .i64 0], none, 0, none, [0, 1, 2], [1, 1, 1], [3, 3, 3], [.int .i64, .int .i64, .int .i64], true⟩ := by kernel_rfl
theorem cx_at49 : PM.find cx 49 = some ⟨3, true, [.int .i64 0, .int .i64 0, .int .i64 0], none, 0, none, [0, 1, 2], [1, 1, 1], [3, 3, 3], [.int .i64, .int .i64, .int .i64], true⟩ := by kernel_rfl
theorem cx_at50 : PM.find cx 50 = some ⟨1, false, [.arr (.emp (.vecs 124 3))], some (.vecs 124 3), 3, none, [], [], [], [.sl 50], false⟩ := by kernel_rfl
theorem cx_at53 : PM.find cx 53 = some ⟨1, false, [.arr (.emp (.vecs 73 3))], some (.vecs 73 3), 3, none, [], [], [], [.sl 53], false⟩ := by kernel_rfl
theorem cx_at59 : PM.find cx 59 = some ⟨1, false, [.arr (.emp (.ints 3 .i64))], some (.ints 3 .i64), 1, none, [], [], [], [.sl 59], false⟩ := by kernel_rfl
theorem cx_at72 : PM.find cx 72 = some ⟨3, true, [.int .i64 0, .int .i64 0, .int .i64 0], none, 0, none, [0, 1, 2], [1, 1, 1], [3, 3, 3], [.int .i64, .int .i64, .int .i64], true⟩ := by kernel_rfl
theorem cx_at73 : PM.find cx 73 = some ⟨3, true, [.int .i64 0, .int .i64 0, .int .i64 0], none, 0, none, [0, 1, 2], [1, 1, 1], [3, 3, 3], [.int .i64, .int .i64, .int .i64], true⟩ := by kernel_rfl
theorem cx_at75 : PM.find cx 75 = some ⟨1, false, [.arr (.emp (.vecs 139 2))], some (.vecs 139 2), 2, none, [], [], [], [.sl 75], false⟩ := by kernel_rfl
theorem cx_at76 : PM.find cx 76 = some ⟨7, true, [.int .i64 0, .int .i64 0, .int .i64 0, .int .i64 0, .int .i64 0, .arr (.emp (.vecs 139 2)), .arr (.emp (.ints 3 .i64))], none, 0, none, [0, 1, 2, 3, 4, 5, 6], [1, 1, 1, 1, 1, 1, 1], [3, 3, 3, 3, 3, 75, 59], [.int .i64, .int .i64, .int .i64, .int .i64, .int .i64, .sl 75, .sl 59], false⟩ := by kernel_rfl
theorem cx_at77 : PM.find cx 77 = some ⟨7, true, [.int .i64 0, .int .i64 0, .int .i64 0, .int .i64 0, .int .i64 0, .arr (.emp (.vecs 139 2)), .arr (.emp (.ints 3 .i64))], none, 0, none, [0, 1, 2, 3, 4, 5, 6], [1, 1, 1, 1, 1, 1, 1], [3, 3, 3, 3, 3, 75, 59], [.int .i64, .int .i64, .int .i64, .int .i64, .int .i64, .sl 75, .sl 59], false⟩ := by kernel_rfl
theorem cx_at80 : PM.find cx 80 = some ⟨1, false, [.arr (.emp (.vecs 135 2))], some (.vecs 135 2), 2, none, [], [], [], [.sl 80], false⟩ := by kernel_rfl
theorem cx_at81 : PM.find cx 81 = some ⟨7, true, [.int .i64 0, .int .i64 0, .int .i64 0, .int .i64 0, .int .i64 0, .arr (.emp (.vecs 135 2)), .arr (.emp (.ints 3 .i64))], none, 0, none, [0, 1, 2, 3, 4, 5, 6], [1, 1, 1, 1, 1, 1, 1], [3, 3, 3, 3, 3, 80, 59], [.int .i64, .int .i64, .int .i64, .int .i64, .int .i64, .sl 80, .sl 59], false⟩ := by kernel_rfl
theorem cx_at82 : PM.find cx 82 = some ⟨7, true, [.int .i64 0, .int .i64 0, .int .i64 0, .int .i64 0, .int .i64 0, .arr (.emp (.vecs 135 2)), .arr (.emp (.ints 3 .i64))], none, 0, none, [0, 1, 2, 3, 4, 5, 6], [1, 1, 1, 1, 1, 1, 1], [3, 3, 3, 3, 3, 80, 59], [.int .i64, .int .i64, .int .i64, .int .i64, .int .i64, .sl 80, .sl 59], false⟩ := by kernel_rfl
theorem cx_at124 : PM.find cx 124 = some ⟨3, true, [.int .i64 0, .int .i64 0, .int .i64 0], none, 0, none, [0, 1, 2], [1, 1, 1], [3, 3, 3], [.int .i64, .int .i64, .int .i64], true⟩ := by kernel_rfl
theorem cx_at134 : PM.find cx 134 = some ⟨2, true, [.int .i64 0, .int .i64 0], none, 0, none, [0, 1], [1, 1], [3, 3], [.int .i64, .int .i64], true⟩ := by kernel_rfl
theorem cx_at135 : PM.find cx 135 = some ⟨2, true, [.int .i64 0, .int .i64 0], none, 0, none, [0, 1], [1, 1], [3, 3], [.int .i64, .int .i64], true⟩ := by kernel_rfl
theorem cx_at139 : PM.find cx 139 = some ⟨2, true, [.int .i64 0, .int .i64 0], none, 0, none, [0, 1], [1, 1], [3, 3], [.int .i64, .int .i64], true⟩ := by kernel_rfl
theorem cx_at155 : PM.find cx 155 = some ⟨3, true, [.int .i64 0, .int .i64 0, .int .i64 0], none, 0, none, [0, 1, 2], [1, 1, 1], [3, 3, 3], [.int .i64, .int .i64, .int .i64], true⟩ := by kernel_rfl
theorem cx_at157 : PM.find cx 157 = some ⟨3, true, [.arr (.emp (.ints 5 .u8)), .int .i64 0, .int .i64 0], none, 0, none, [0, 1, 2], [1, 1, 1], [43, 3, 3], [.sl 43, .int .i64, .int .i64], false⟩ := by kernel_rfl
theorem cx_at158 : PM.find cx 158 = some ⟨3, true, [.arr (.emp (.ints 5 .u8)), .int .i64 0, .int .i64 0], none, 0, none, [0, 1, 2], [1, 1, 1], [43, 3, 3], [.sl 43, .int .i64, .int .i64], false⟩ := by kernel_rfl
theorem cx_at163 : PM.find cx 163 = some ⟨1, false, [.int .u64 0], none, 0, none, [], [], [], [.int .u64], false⟩ := by kernel_rfl
theorem cx_at168 : PM.find cx 168 = some ⟨1, false, [.int .i64 0], none, 0, none, [], [], [], [.int .i64], false⟩ := by kernel_rfl
theorem cx_at175 : PM.find cx 175 = some ⟨1, false, [.int .u32 0], none, 0, none, [], [], [], [.int .u32], false⟩ := by kernel_rfl
theorem cx_at177 : PM.find cx 177 = some ⟨1, false, [.int .u64 0], none, 0, none, [], [], [], [.int .u64], false⟩ := by kernel_rfl
theorem cx_at178 : PM.find cx 178 = some ⟨1, false, [.int .u64 0], none, 0, none, [], [], [], [.int .u64], false⟩ := by kernel_rfl
theorem cx_at193 : PM.find cx 193 = some ⟨1, false, [.int .u8 0], none, 0, none, [], [], [], [.int .u8], false⟩ := by kernel_rfl
theorem cx_at194 : PM.find cx 194 = some ⟨1, false, [.int .u8 0], none, 0, none, [], [], [], [.int .u8], false⟩ := by kernel_rfl
theorem cx_at197 : PM.find cx 197 = some ⟨1, false, [.int .i32 0], none, 0, none, [], [], [], [.int .i32], false⟩ := by kernel_rfl
theorem cx_at198 : PM.find cx 198 = some ⟨1, false, [.int .i32 0], none, 0, none, [], [], [], [.int .i32], false⟩ := by kernel_rfl

abbrev laws_toProbe_T := (Int) → (Int) → (Int) → (Int) → ((Int) → (Int) → (Int) → (Int) → PM.R) → PM.R
noncomputable def laws_toProbe_w (c : laws_toProbe_T) (ds : List PM.V) (k : PM.V → PM.R) : PM.R :=
  match ds with
  | [.agg [.int .i64 a_Cell, .int .i64 a_Phase, .int .i64 a_Ver, .int .i64 a_Val]] => c a_Cell a_Phase a_Ver a_Val (fun r0_Cell r0_Phase r0_Ver r0_Val => k (.agg [.int .i64 r0_Cell, .int .i64 r0_Phase, .int .i64 r0_Ver, .int .i64 r0_Val]))
  | _ => none
noncomputable def laws_toProbe_f (A : PM.Prims) (a_Cell : Int) (a_Phase : Int) (a_Ver : Int) (a_Val : Int) (k : (Int) → (Int) → (Int) → (Int) → PM.R) : PM.R :=
  k a_Cell a_Phase a_Ver a_Val
noncomputable def laws_toProbe (A : PM.Prims) : laws_toProbe_T := laws_toProbe_f A
noncomputable def laws_toProbe_L (A : PM.Prims) (n : Nat) : PM.Lam := fun cur σ K =>
  match cur, σ, K with
  | _, _, _ => none
noncomputable def laws_toProbe_E (A : PM.Prims) : PM.Env := ⟨[], [], [], [(0, [1, 2]), (1, [1, 2, 3]), (2, [1, 2, 3]), (3, [1, 2, 3]), (4, [1, 2, 3]), (5, [2, 3]), (6, [2])], laws_toProbe_L A A.fuel⟩
theorem laws_toProbe_ok (A : PM.Prims) (a_Cell : Int) (a_Phase : Int) (a_Ver : Int) (a_Val : Int) (k : PM.V → PM.R) : PM.pfun A cx [] (laws_toProbe_E A) Go.Proofs.Try.f23 [.agg [.int .i64 a_Cell, .int .i64 a_Phase, .int .i64 a_Ver, .int .i64 a_Val]] k = laws_toProbe_f A a_Cell a_Phase a_Ver a_Val (fun r0_Cell r0_Phase r0_Ver r0_Val => k (.agg [.int .i64 r0_Cell, .int .i64 r0_Phase, .int .i64 r0_Ver, .int .i64 r0_Val])) := by kernel_rfl

theorem laws_toProbe_fn : PM.FnIs Try.prog 23 Try.f23 := .of Try.func23 (by kernel_rfl) (by kernel_rfl)
theorem laws_toProbe_g : PM.GOk Try.prog cx 23 ⟨[], laws_toProbe_w (laws_toProbe PM.std)⟩ := by
  refine ⟨laws_toProbe_fn.enter, fun _ ds k r h => ?_, fun hm => absurd rfl hm⟩
  change laws_toProbe_w (laws_toProbe PM.std) ds k = some r at h
  unfold laws_toProbe_w at h
  split at h
  · exact PM.pfun_ok (E := laws_toProbe_E PM.std) (L := fun n => laws_toProbe_L PM.std n) (N := PM.std.fuel) cx_ok .nil mixed .nil laws_toProbe_fn (by kernel_rfl) ⟨rfl, fun _ _ _ => rfl, fun n cur σ K r h => by cases h⟩
      ((laws_toProbe_ok PM.std _ _ _ _ k).trans h)
  · cases h

abbrev spec_l1In_T := (Int) → (Int) → (Int) → ((Bool) → PM.R) → PM.R
noncomputable def spec_l1In_w (c : spec_l1In_T) (ds : List PM.V) (k : PM.V → PM.R) : PM.R :=
  match ds with
  | [.int .i64 x, .int .i64 low, .int .i64 high] => c x low high (fun r0 => k (.bool r0))
  | _ => none
noncomputable def spec_l1In_f (A : PM.Prims) (x : Int) (low : Int) (high : Int) (k : (Bool) → PM.R) : PM.R :=
  bif (A.le low x) then
    k (A.le x high)
  else
    k false
noncomputable def spec_l1In (A : PM.Prims) : spec_l1In_T := spec_l1In_f A
noncomputable def spec_l1In_L (A : PM.Prims) (n : Nat) : PM.Lam := fun cur σ K =>
  match cur, σ, K with
  | _, _, _ => none
noncomputable def spec_l1In_E (A : PM.Prims) : PM.Env := ⟨[], [], [], [(0, [0, 1, 2]), (1, [6])], spec_l1In_L A A.fuel⟩
theorem spec_l1In_ok (A : PM.Prims) (x : Int) (low : Int) (high : Int) (k : PM.V → PM.R) : PM.pfun A cx [] (spec_l1In_E A) Go.Proofs.Try.f94 [.int .i64 x, .int .i64 low, .int .i64 high] k = spec_l1In_f A x low high (fun r0 => k (.bool r0)) := by kernel_rfl

theorem spec_l1In_fn : PM.FnIs Try.prog 94 Try.f94 := .of Try.func94 (by kernel_rfl) (by kernel_rfl)
theorem spec_l1In_g : PM.GOk Try.prog cx 94 ⟨[], spec_l1In_w (spec_l1In PM.std)⟩ := by
  refine ⟨spec_l1In_fn.enter, fun _ ds k r h => ?_, fun hm => absurd rfl hm⟩
  change spec_l1In_w (spec_l1In PM.std) ds k = some r at h
  unfold spec_l1In_w at h
  split at h
  · exact PM.pfun_ok (E := spec_l1In_E PM.std) (L := fun n => spec_l1In_L PM.std n) (N := PM.std.fuel) cx_ok .nil mixed .nil spec_l1In_fn (by kernel_rfl) ⟨rfl, fun _ _ _ => rfl, fun n cur σ K r h => by cases h⟩
      ((spec_l1In_ok PM.std _ _ _ k).trans h)
  · cases h

abbrev spec_l3Cell_T := (Int) → ((Bool) → PM.R) → PM.R
noncomputable def spec_l3Cell_w (c : spec_l3Cell_T) (ds : List PM.V) (k : PM.V → PM.R) : PM.R :=
  match ds with
  | [.int .i64 i] => c i (fun r0 => k (.bool r0))
  | _ => none
noncomputable def spec_l3Cell_f (A : PM.Prims) (c_94 : spec_l1In_T) (i : Int) (k : (Bool) → PM.R) : PM.R :=
  c_94 i 0 7 (fun r1 =>
    k r1)
noncomputable def spec_l3Cell (A : PM.Prims) : spec_l3Cell_T := spec_l3Cell_f A (spec_l1In A)
noncomputable def spec_l3Cell_L (A : PM.Prims) (c_94 : spec_l1In_T) (n : Nat) : PM.Lam := fun cur σ K =>
  match cur, σ, K with
  | _, _, _ => none
noncomputable def spec_l3Cell_E (A : PM.Prims) (c_94 : spec_l1In_T) : PM.Env := ⟨[(94, ⟨[], spec_l1In_w c_94⟩)], [], [], [(0, [0]), (1, [2])], spec_l3Cell_L A c_94 A.fuel⟩
theorem spec_l3Cell_ok (A : PM.Prims) (c_94 : spec_l1In_T) (i : Int) (k : PM.V → PM.R) : PM.pfun A cx [] (spec_l3Cell_E A c_94) Go.Proofs.Try.f93 [.int .i64 i] k = spec_l3Cell_f A c_94 i (fun r0 => k (.bool r0)) := by kernel_rfl

theorem spec_l3Cell_fn : PM.FnIs Try.prog 93 Try.f93 := .of Try.func93 (by kernel_rfl) (by kernel_rfl)
theorem spec_l3Cell_g : PM.GOk Try.prog cx 93 ⟨[], spec_l3Cell_w (spec_l3Cell PM.std)⟩ := by
  refine ⟨spec_l3Cell_fn.enter, fun _ ds k r h => ?_, fun hm => absurd rfl hm⟩
  change spec_l3Cell_w (spec_l3Cell PM.std) ds k = some r at h
  unfold spec_l3Cell_w at h
  split at h
  · exact PM.pfun_ok (E := spec_l3Cell_E PM.std (spec_l1In PM.std)) (L := fun n => spec_l3Cell_L PM.std (spec_l1In PM.std) n) (N := PM.std.fuel) cx_ok (.cons spec_l1In_g .nil) mixed .nil spec_l3Cell_fn (by kernel_rfl) ⟨rfl, fun _ _ _ => rfl, fun n cur σ K r h => by cases h⟩
      ((spec_l3Cell_ok PM.std (spec_l1In PM.std) _ k).trans h)
  · cases h

abbrev spec_l3Val_T := (Int) → ((Bool) → PM.R) → PM.R
noncomputable def spec_l3Val_w (c : spec_l3Val_T) (ds : List PM.V) (k : PM.V → PM.R) : PM.R :=
  match ds with
  | [.int .i64 v] => c v (fun r0 => k (.bool r0))
  | _ => none
noncomputable def spec_l3Val_f (A : PM.Prims) (c_94 : spec_l1In_T) (v : Int) (k : (Bool) → PM.R) : PM.R :=
  c_94 v 0 65535 (fun r1 =>
    k r1)
noncomputable def spec_l3Val (A : PM.Prims) : spec_l3Val_T := spec_l3Val_f A (spec_l1In A)
noncomputable def spec_l3Val_L (A : PM.Prims) (c_94 : spec_l1In_T) (n : Nat) : PM.Lam := fun cur σ K =>
  match cur, σ, K with
  | _, _, _ => none
noncomputable def spec_l3Val_E (A : PM.Prims) (c_94 : spec_l1In_T) : PM.Env := ⟨[(94, ⟨[], spec_l1In_w c_94⟩)], [], [], [(0, [0]), (1, [2])], spec_l3Val_L A c_94 A.fuel⟩
theorem spec_l3Val_ok (A : PM.Prims) (c_94 : spec_l1In_T) (v : Int) (k : PM.V → PM.R) : PM.pfun A cx [] (spec_l3Val_E A c_94) Go.Proofs.Try.f95 [.int .i64 v] k = spec_l3Val_f A c_94 v (fun r0 => k (.bool r0)) := by kernel_rfl

theorem spec_l3Val_fn : PM.FnIs Try.prog 95 Try.f95 := .of Try.func95 (by kernel_rfl) (by kernel_rfl)
theorem spec_l3Val_g : PM.GOk Try.prog cx 95 ⟨[], spec_l3Val_w (spec_l3Val PM.std)⟩ := by
  refine ⟨spec_l3Val_fn.enter, fun _ ds k r h => ?_, fun hm => absurd rfl hm⟩
  change spec_l3Val_w (spec_l3Val PM.std) ds k = some r at h
  unfold spec_l3Val_w at h
  split at h
  · exact PM.pfun_ok (E := spec_l3Val_E PM.std (spec_l1In PM.std)) (L := fun n => spec_l3Val_L PM.std (spec_l1In PM.std) n) (N := PM.std.fuel) cx_ok (.cons spec_l1In_g .nil) mixed .nil spec_l3Val_fn (by kernel_rfl) ⟨rfl, fun _ _ _ => rfl, fun n cur σ K r h => by cases h⟩
      ((spec_l3Val_ok PM.std (spec_l1In PM.std) _ k).trans h)
  · cases h

abbrev spec_ProbeOk_T := (Int) → (Int) → (Int) → (Int) → ((Bool) → PM.R) → PM.R
noncomputable def spec_ProbeOk_w (c : spec_ProbeOk_T) (ds : List PM.V) (k : PM.V → PM.R) : PM.R :=
  match ds with
  | [.agg [.int .i64 p_Cell, .int .i64 p_Phase, .int .i64 p_Ver, .int .i64 p_Val]] => c p_Cell p_Phase p_Ver p_Val (fun r0 => k (.bool r0))
  | _ => none
noncomputable def spec_ProbeOk_f (A : PM.Prims) (c_94 : spec_l1In_T) (c_93 : spec_l3Cell_T) (c_95 : spec_l3Val_T) (p_Cell : Int) (p_Phase : Int) (p_Ver : Int) (p_Val : Int) (k : (Bool) → PM.R) : PM.R :=
  c_93 p_Cell (fun r1 =>
    bif r1 then
      c_94 p_Phase 0 4 (fun r2 =>
        bif r2 then
          c_94 p_Ver 0 1000000 (fun r3 =>
            bif r3 then
              c_95 p_Val (fun r4 =>
                k r4)
            else
              k false)
        else
          k false)
    else
      k false)
noncomputable def spec_ProbeOk (A : PM.Prims) : spec_ProbeOk_T := spec_ProbeOk_f A (spec_l1In A) (spec_l3Cell A) (spec_l3Val A)
noncomputable def spec_ProbeOk_L (A : PM.Prims) (c_94 : spec_l1In_T) (c_93 : spec_l3Cell_T) (c_95 : spec_l3Val_T) (n : Nat) : PM.Lam := fun cur σ K =>
  match cur, σ, K with
  | _, _, _ => none
noncomputable def spec_ProbeOk_E (A : PM.Prims) (c_94 : spec_l1In_T) (c_93 : spec_l3Cell_T) (c_95 : spec_l3Val_T) : PM.Env := ⟨[(94, ⟨[], spec_l1In_w c_94⟩), (93, ⟨[], spec_l3Cell_w c_93⟩), (95, ⟨[], spec_l3Val_w c_95⟩)], [], [], [(0, [1]), (1, [2])], spec_ProbeOk_L A c_94 c_93 c_95 A.fuel⟩
theorem spec_ProbeOk_ok (A : PM.Prims) (c_94 : spec_l1In_T) (c_93 : spec_l3Cell_T) (c_95 : spec_l3Val_T) (p_Cell : Int) (p_Phase : Int) (p_Ver : Int) (p_Val : Int) (k : PM.V → PM.R) : PM.pfun A cx [] (spec_ProbeOk_E A c_94 c_93 c_95) Go.Proofs.Try.f22 [.agg [.int .i64 p_Cell, .int .i64 p_Phase, .int .i64 p_Ver, .int .i64 p_Val]] k = spec_ProbeOk_f A c_94 c_93 c_95 p_Cell p_Phase p_Ver p_Val (fun r0 => k (.bool r0)) := by kernel_rfl

theorem spec_ProbeOk_fn : PM.FnIs Try.prog 22 Try.f22 := .of Try.func22 (by kernel_rfl) (by kernel_rfl)
theorem spec_ProbeOk_g : PM.GOk Try.prog cx 22 ⟨[], spec_ProbeOk_w (spec_ProbeOk PM.std)⟩ := by
  refine ⟨spec_ProbeOk_fn.enter, fun _ ds k r h => ?_, fun hm => absurd rfl hm⟩
  change spec_ProbeOk_w (spec_ProbeOk PM.std) ds k = some r at h
  unfold spec_ProbeOk_w at h
  split at h
  · exact PM.pfun_ok (E := spec_ProbeOk_E PM.std (spec_l1In PM.std) (spec_l3Cell PM.std) (spec_l3Val PM.std)) (L := fun n => spec_ProbeOk_L PM.std (spec_l1In PM.std) (spec_l3Cell PM.std) (spec_l3Val PM.std) n) (N := PM.std.fuel) cx_ok (.cons spec_l1In_g (.cons spec_l3Cell_g (.cons spec_l3Val_g .nil))) mixed .nil spec_ProbeOk_fn (by kernel_rfl) ⟨rfl, fun _ _ _ => rfl, fun n cur σ K r h => by cases h⟩
      ((spec_ProbeOk_ok PM.std (spec_l1In PM.std) (spec_l3Cell PM.std) (spec_l3Val PM.std) _ _ _ _ k).trans h)
  · cases h

abbrev impl_within_T := (Int) → (Int) → (Int) → ((Bool) → PM.R) → PM.R
noncomputable def impl_within_w (c : impl_within_T) (ds : List PM.V) (k : PM.V → PM.R) : PM.R :=
  match ds with
  | [.int .i64 x, .int .i64 lo, .int .i64 hi] => c x lo hi (fun r0 => k (.bool r0))
  | _ => none
noncomputable def impl_within_f (A : PM.Prims) (x : Int) (lo : Int) (hi : Int) (k : (Bool) → PM.R) : PM.R :=
  bif (A.le lo x) then
    k (A.le x hi)
  else
    k false
noncomputable def impl_within (A : PM.Prims) : impl_within_T := impl_within_f A
noncomputable def impl_within_L (A : PM.Prims) (n : Nat) : PM.Lam := fun cur σ K =>
  match cur, σ, K with
  | _, _, _ => none
noncomputable def impl_within_E (A : PM.Prims) : PM.Env := ⟨[], [], [], [(0, [0, 1, 2]), (1, [6])], impl_within_L A A.fuel⟩
theorem impl_within_ok (A : PM.Prims) (x : Int) (lo : Int) (hi : Int) (k : PM.V → PM.R) : PM.pfun A cx [] (impl_within_E A) Go.Proofs.Try.f97 [.int .i64 x, .int .i64 lo, .int .i64 hi] k = impl_within_f A x lo hi (fun r0 => k (.bool r0)) := by kernel_rfl

theorem impl_within_fn : PM.FnIs Try.prog 97 Try.f97 := .of Try.func97 (by kernel_rfl) (by kernel_rfl)
theorem impl_within_g : PM.GOk Try.prog cx 97 ⟨[], impl_within_w (impl_within PM.std)⟩ := by
  refine ⟨impl_within_fn.enter, fun _ ds k r h => ?_, fun hm => absurd rfl hm⟩
  change impl_within_w (impl_within PM.std) ds k = some r at h
  unfold impl_within_w at h
  split at h
  · exact PM.pfun_ok (E := impl_within_E PM.std) (L := fun n => impl_within_L PM.std n) (N := PM.std.fuel) cx_ok .nil mixed .nil impl_within_fn (by kernel_rfl) ⟨rfl, fun _ _ _ => rfl, fun n cur σ K r h => by cases h⟩
      ((impl_within_ok PM.std _ _ _ k).trans h)
  · cases h

abbrev impl_isCell_T := (Int) → ((Bool) → PM.R) → PM.R
noncomputable def impl_isCell_w (c : impl_isCell_T) (ds : List PM.V) (k : PM.V → PM.R) : PM.R :=
  match ds with
  | [.int .i64 i] => c i (fun r0 => k (.bool r0))
  | _ => none
noncomputable def impl_isCell_f (A : PM.Prims) (c_97 : impl_within_T) (i : Int) (k : (Bool) → PM.R) : PM.R :=
  c_97 i 0 7 (fun r1 =>
    k r1)
noncomputable def impl_isCell (A : PM.Prims) : impl_isCell_T := impl_isCell_f A (impl_within A)
noncomputable def impl_isCell_L (A : PM.Prims) (c_97 : impl_within_T) (n : Nat) : PM.Lam := fun cur σ K =>
  match cur, σ, K with
  | _, _, _ => none
noncomputable def impl_isCell_E (A : PM.Prims) (c_97 : impl_within_T) : PM.Env := ⟨[(97, ⟨[], impl_within_w c_97⟩)], [], [], [(0, [0]), (1, [2])], impl_isCell_L A c_97 A.fuel⟩
theorem impl_isCell_ok (A : PM.Prims) (c_97 : impl_within_T) (i : Int) (k : PM.V → PM.R) : PM.pfun A cx [] (impl_isCell_E A c_97) Go.Proofs.Try.f96 [.int .i64 i] k = impl_isCell_f A c_97 i (fun r0 => k (.bool r0)) := by kernel_rfl

theorem impl_isCell_fn : PM.FnIs Try.prog 96 Try.f96 := .of Try.func96 (by kernel_rfl) (by kernel_rfl)
theorem impl_isCell_g : PM.GOk Try.prog cx 96 ⟨[], impl_isCell_w (impl_isCell PM.std)⟩ := by
  refine ⟨impl_isCell_fn.enter, fun _ ds k r h => ?_, fun hm => absurd rfl hm⟩
  change impl_isCell_w (impl_isCell PM.std) ds k = some r at h
  unfold impl_isCell_w at h
  split at h
  · exact PM.pfun_ok (E := impl_isCell_E PM.std (impl_within PM.std)) (L := fun n => impl_isCell_L PM.std (impl_within PM.std) n) (N := PM.std.fuel) cx_ok (.cons impl_within_g .nil) mixed .nil impl_isCell_fn (by kernel_rfl) ⟨rfl, fun _ _ _ => rfl, fun n cur σ K r h => by cases h⟩
      ((impl_isCell_ok PM.std (impl_within PM.std) _ k).trans h)
  · cases h

abbrev impl_isValue_T := (Int) → ((Bool) → PM.R) → PM.R
noncomputable def impl_isValue_w (c : impl_isValue_T) (ds : List PM.V) (k : PM.V → PM.R) : PM.R :=
  match ds with
  | [.int .i64 v] => c v (fun r0 => k (.bool r0))
  | _ => none
noncomputable def impl_isValue_f (A : PM.Prims) (c_97 : impl_within_T) (v : Int) (k : (Bool) → PM.R) : PM.R :=
  c_97 v 0 65535 (fun r1 =>
    k r1)
noncomputable def impl_isValue (A : PM.Prims) : impl_isValue_T := impl_isValue_f A (impl_within A)
noncomputable def impl_isValue_L (A : PM.Prims) (c_97 : impl_within_T) (n : Nat) : PM.Lam := fun cur σ K =>
  match cur, σ, K with
  | _, _, _ => none
noncomputable def impl_isValue_E (A : PM.Prims) (c_97 : impl_within_T) : PM.Env := ⟨[(97, ⟨[], impl_within_w c_97⟩)], [], [], [(0, [0]), (1, [2])], impl_isValue_L A c_97 A.fuel⟩
theorem impl_isValue_ok (A : PM.Prims) (c_97 : impl_within_T) (v : Int) (k : PM.V → PM.R) : PM.pfun A cx [] (impl_isValue_E A c_97) Go.Proofs.Try.f98 [.int .i64 v] k = impl_isValue_f A c_97 v (fun r0 => k (.bool r0)) := by kernel_rfl

theorem impl_isValue_fn : PM.FnIs Try.prog 98 Try.f98 := .of Try.func98 (by kernel_rfl) (by kernel_rfl)
theorem impl_isValue_g : PM.GOk Try.prog cx 98 ⟨[], impl_isValue_w (impl_isValue PM.std)⟩ := by
  refine ⟨impl_isValue_fn.enter, fun _ ds k r h => ?_, fun hm => absurd rfl hm⟩
  change impl_isValue_w (impl_isValue PM.std) ds k = some r at h
  unfold impl_isValue_w at h
  split at h
  · exact PM.pfun_ok (E := impl_isValue_E PM.std (impl_within PM.std)) (L := fun n => impl_isValue_L PM.std (impl_within PM.std) n) (N := PM.std.fuel) cx_ok (.cons impl_within_g .nil) mixed .nil impl_isValue_fn (by kernel_rfl) ⟨rfl, fun _ _ _ => rfl, fun n cur σ K r h => by cases h⟩
      ((impl_isValue_ok PM.std (impl_within PM.std) _ k).trans h)
  · cases h

abbrev impl_ProbeOk_T := (Int) → (Int) → (Int) → (Int) → ((Bool) → PM.R) → PM.R
noncomputable def impl_ProbeOk_w (c : impl_ProbeOk_T) (ds : List PM.V) (k : PM.V → PM.R) : PM.R :=
  match ds with
  | [.agg [.int .i64 p_Cell, .int .i64 p_Phase, .int .i64 p_Ver, .int .i64 p_Val]] => c p_Cell p_Phase p_Ver p_Val (fun r0 => k (.bool r0))
  | _ => none
noncomputable def impl_ProbeOk_f (A : PM.Prims) (c_97 : impl_within_T) (c_96 : impl_isCell_T) (c_98 : impl_isValue_T) (p_Cell : Int) (p_Phase : Int) (p_Ver : Int) (p_Val : Int) (k : (Bool) → PM.R) : PM.R :=
  c_96 p_Cell (fun r1 =>
    bif r1 then
      c_97 p_Phase 0 4 (fun r2 =>
        bif r2 then
          c_97 p_Ver 0 1000000 (fun r3 =>
            bif r3 then
              c_98 p_Val (fun r4 =>
                k r4)
            else
              k false)
        else
          k false)
    else
      k false)
noncomputable def impl_ProbeOk (A : PM.Prims) : impl_ProbeOk_T := impl_ProbeOk_f A (impl_within A) (impl_isCell A) (impl_isValue A)
noncomputable def impl_ProbeOk_L (A : PM.Prims) (c_97 : impl_within_T) (c_96 : impl_isCell_T) (c_98 : impl_isValue_T) (n : Nat) : PM.Lam := fun cur σ K =>
  match cur, σ, K with
  | _, _, _ => none
noncomputable def impl_ProbeOk_E (A : PM.Prims) (c_97 : impl_within_T) (c_96 : impl_isCell_T) (c_98 : impl_isValue_T) : PM.Env := ⟨[(97, ⟨[], impl_within_w c_97⟩), (96, ⟨[], impl_isCell_w c_96⟩), (98, ⟨[], impl_isValue_w c_98⟩)], [], [], [(0, [1]), (1, [2])], impl_ProbeOk_L A c_97 c_96 c_98 A.fuel⟩
theorem impl_ProbeOk_ok (A : PM.Prims) (c_97 : impl_within_T) (c_96 : impl_isCell_T) (c_98 : impl_isValue_T) (p_Cell : Int) (p_Phase : Int) (p_Ver : Int) (p_Val : Int) (k : PM.V → PM.R) : PM.pfun A cx [] (impl_ProbeOk_E A c_97 c_96 c_98) Go.Proofs.Try.f24 [.agg [.int .i64 p_Cell, .int .i64 p_Phase, .int .i64 p_Ver, .int .i64 p_Val]] k = impl_ProbeOk_f A c_97 c_96 c_98 p_Cell p_Phase p_Ver p_Val (fun r0 => k (.bool r0)) := by kernel_rfl

theorem impl_ProbeOk_fn : PM.FnIs Try.prog 24 Try.f24 := .of Try.func24 (by kernel_rfl) (by kernel_rfl)
theorem impl_ProbeOk_g : PM.GOk Try.prog cx 24 ⟨[], impl_ProbeOk_w (impl_ProbeOk PM.std)⟩ := by
  refine ⟨impl_ProbeOk_fn.enter, fun _ ds k r h => ?_, fun hm => absurd rfl hm⟩
  change impl_ProbeOk_w (impl_ProbeOk PM.std) ds k = some r at h
  unfold impl_ProbeOk_w at h
  split at h
  · exact PM.pfun_ok (E := impl_ProbeOk_E PM.std (impl_within PM.std) (impl_isCell PM.std) (impl_isValue PM.std)) (L := fun n => impl_ProbeOk_L PM.std (impl_within PM.std) (impl_isCell PM.std) (impl_isValue PM.std) n) (N := PM.std.fuel) cx_ok (.cons impl_within_g (.cons impl_isCell_g (.cons impl_isValue_g .nil))) mixed .nil impl_ProbeOk_fn (by kernel_rfl) ⟨rfl, fun _ _ _ => rfl, fun n cur σ K r h => by cases h⟩
      ((impl_ProbeOk_ok PM.std (impl_within PM.std) (impl_isCell PM.std) (impl_isValue PM.std) _ _ _ _ k).trans h)
  · cases h

abbrev laws_FnExactProbeOk_T := (Int) → (Int) → (Int) → (Int) → ((Bool) → PM.R) → PM.R
noncomputable def laws_FnExactProbeOk_w (c : laws_FnExactProbeOk_T) (ds : List PM.V) (k : PM.V → PM.R) : PM.R :=
  match ds with
  | [.agg [.int .i64 aP_Cell, .int .i64 aP_Phase, .int .i64 aP_Ver, .int .i64 aP_Val]] => c aP_Cell aP_Phase aP_Ver aP_Val (fun r0 => k (.bool r0))
  | _ => none
noncomputable def laws_FnExactProbeOk_f (A : PM.Prims) (c_23 : laws_toProbe_T) (c_22 : spec_ProbeOk_T) (c_24 : impl_ProbeOk_T) (aP_Cell : Int) (aP_Phase : Int) (aP_Ver : Int) (aP_Val : Int) (k : (Bool) → PM.R) : PM.R :=
  c_23 aP_Cell aP_Phase aP_Ver aP_Val (fun r1 r2 r3 r4 =>
    c_22 r1 r2 r3 r4 (fun r5 =>
      c_23 aP_Cell aP_Phase aP_Ver aP_Val (fun r6 r7 r8 r9 =>
        c_24 r6 r7 r8 r9 (fun r10 =>
          bif (A.not (A.beq r10 r5)) then
            k false
          else
            k true))))
noncomputable def laws_FnExactProbeOk (A : PM.Prims) : laws_FnExactProbeOk_T := laws_FnExactProbeOk_f A (laws_toProbe A) (spec_ProbeOk A) (impl_ProbeOk A)
noncomputable def laws_FnExactProbeOk_L (A : PM.Prims) (c_23 : laws_toProbe_T) (c_22 : spec_ProbeOk_T) (c_24 : impl_ProbeOk_T) (n : Nat) : PM.Lam := fun cur σ K =>
  match cur, σ, K with
  | _, _, _ => none
noncomputable def laws_FnExactProbeOk_E (A : PM.Prims) (c_23 : laws_toProbe_T) (c_22 : spec_ProbeOk_T) (c_24 : impl_ProbeOk_T) : PM.Env := ⟨[(23, ⟨[], laws_toProbe_w c_23⟩), (22, ⟨[], spec_ProbeOk_w c_22⟩), (24, ⟨[], impl_ProbeOk_w c_24⟩)], [], [], [(0, [1]), (1, [1, 3]), (2, [3, 4]), (3, [13]), (4, [2]), (5, [2])], laws_FnExactProbeOk_L A c_23 c_22 c_24 A.fuel⟩
theorem laws_FnExactProbeOk_ok (A : PM.Prims) (c_23 : laws_toProbe_T) (c_22 : spec_ProbeOk_T) (c_24 : impl_ProbeOk_T) (aP_Cell : Int) (aP_Phase : Int) (aP_Ver : Int) (aP_Val : Int) (k : PM.V → PM.R) : PM.pfun A cx [] (laws_FnExactProbeOk_E A c_23 c_22 c_24) Go.Proofs.Try.f3 [.agg [.int .i64 aP_Cell, .int .i64 aP_Phase, .int .i64 aP_Ver, .int .i64 aP_Val]] k = laws_FnExactProbeOk_f A c_23 c_22 c_24 aP_Cell aP_Phase aP_Ver aP_Val (fun r0 => k (.bool r0)) := by kernel_rfl

theorem laws_FnExactProbeOk_fn : PM.FnIs Try.prog 3 Try.f3 := .of Try.func3 (by kernel_rfl) (by kernel_rfl)
theorem laws_FnExactProbeOk_g : PM.GOk Try.prog cx 3 ⟨[], laws_FnExactProbeOk_w (laws_FnExactProbeOk PM.std)⟩ := by
  refine ⟨laws_FnExactProbeOk_fn.enter, fun _ ds k r h => ?_, fun hm => absurd rfl hm⟩
  change laws_FnExactProbeOk_w (laws_FnExactProbeOk PM.std) ds k = some r at h
  unfold laws_FnExactProbeOk_w at h
  split at h
  · exact PM.pfun_ok (E := laws_FnExactProbeOk_E PM.std (laws_toProbe PM.std) (spec_ProbeOk PM.std) (impl_ProbeOk PM.std)) (L := fun n => laws_FnExactProbeOk_L PM.std (laws_toProbe PM.std) (spec_ProbeOk PM.std) (impl_ProbeOk PM.std) n) (N := PM.std.fuel) cx_ok (.cons laws_toProbe_g (.cons spec_ProbeOk_g (.cons impl_ProbeOk_g .nil))) mixed .nil laws_FnExactProbeOk_fn (by kernel_rfl) ⟨rfl, fun _ _ _ => rfl, fun n cur σ K r h => by cases h⟩
      ((laws_FnExactProbeOk_ok PM.std (laws_toProbe PM.std) (spec_ProbeOk PM.std) (impl_ProbeOk PM.std) _ _ _ _ k).trans h)
  · cases h

abbrev spec_ProbeNew_T := (Int) → ((Int) → (Int) → (Int) → (Int) → (Bool) → PM.R) → PM.R
noncomputable def spec_ProbeNew_w (c : spec_ProbeNew_T) (ds : List PM.V) (k : PM.V → PM.R) : PM.R :=
  match ds with
  | [.int .i64 cell] => c cell (fun r0_Cell r0_Phase r0_Ver r0_Val r1 => k (.tup [.agg [.int .i64 r0_Cell, .int .i64 r0_Phase, .int .i64 r0_Ver, .int .i64 r0_Val], .bool r1]))
  | _ => none
noncomputable def spec_ProbeNew_f (A : PM.Prims) (c_93 : spec_l3Cell_T) (cell : Int) (k : (Int) → (Int) → (Int) → (Int) → (Bool) → PM.R) : PM.R :=
  c_93 cell (fun r1 =>
    bif (A.not r1) then
      k 0 0 0 0 false
    else
      k cell 0 0 0 true)
noncomputable def spec_ProbeNew (A : PM.Prims) : spec_ProbeNew_T := spec_ProbeNew_f A (spec_l3Cell A)
noncomputable def spec_ProbeNew_L (A : PM.Prims) (c_93 : spec_l3Cell_T) (n : Nat) : PM.Lam := fun cur σ K =>
  match cur, σ, K with
  | _, _, _ => none
noncomputable def spec_ProbeNew_E (A : PM.Prims) (c_93 : spec_l3Cell_T) : PM.Env := ⟨[(93, ⟨[], spec_l3Cell_w c_93⟩)], [], [], [(0, [0, 2]), (1, [0, 2, 6]), (2, [2, 3]), (3, [2, 3])], spec_ProbeNew_L A c_93 A.fuel⟩
theorem spec_ProbeNew_ok (A : PM.Prims) (c_93 : spec_l3Cell_T) (cell : Int) (k : PM.V → PM.R) : PM.pfun A cx [] (spec_ProbeNew_E A c_93) Go.Proofs.Try.f25 [.int .i64 cell] k = spec_ProbeNew_f A c_93 cell (fun r0_Cell r0_Phase r0_Ver r0_Val r1 => k (.tup [.agg [.int .i64 r0_Cell, .int .i64 r0_Phase, .int .i64 r0_Ver, .int .i64 r0_Val], .bool r1])) := by kernel_rfl

theorem spec_ProbeNew_fn : PM.FnIs Try.prog 25 Try.f25 := .of Try.func25 (by kernel_rfl) (by kernel_rfl)
theorem spec_ProbeNew_g : PM.GOk Try.prog cx 25 ⟨[], spec_ProbeNew_w (spec_ProbeNew PM.std)⟩ := by
  refine ⟨spec_ProbeNew_fn.enter, fun _ ds k r h => ?_, fun hm => absurd rfl hm⟩
  change spec_ProbeNew_w (spec_ProbeNew PM.std) ds k = some r at h
  unfold spec_ProbeNew_w at h
  split at h
  · exact PM.pfun_ok (E := spec_ProbeNew_E PM.std (spec_l3Cell PM.std)) (L := fun n => spec_ProbeNew_L PM.std (spec_l3Cell PM.std) n) (N := PM.std.fuel) cx_ok (.cons spec_l3Cell_g .nil) mixed .nil spec_ProbeNew_fn (by kernel_rfl) ⟨rfl, fun _ _ _ => rfl, fun n cur σ K r h => by cases h⟩
      ((spec_ProbeNew_ok PM.std (spec_l3Cell PM.std) _ k).trans h)
  · cases h

abbrev impl_ProbeNew_T := (Int) → ((Int) → (Int) → (Int) → (Int) → (Bool) → PM.R) → PM.R
noncomputable def impl_ProbeNew_w (c : impl_ProbeNew_T) (ds : List PM.V) (k : PM.V → PM.R) : PM.R :=
  match ds with
  | [.int .i64 cell] => c cell (fun r0_Cell r0_Phase r0_Ver r0_Val r1 => k (.tup [.agg [.int .i64 r0_Cell, .int .i64 r0_Phase, .int .i64 r0_Ver, .int .i64 r0_Val], .bool r1]))
  | _ => none
noncomputable def impl_ProbeNew_f (A : PM.Prims) (c_96 : impl_isCell_T) (cell : Int) (k : (Int) → (Int) → (Int) → (Int) → (Bool) → PM.R) : PM.R :=
  c_96 cell (fun r1 =>
    bif (A.not r1) then
      k 0 0 0 0 false
    else
      k cell 0 0 0 true)
noncomputable def impl_ProbeNew (A : PM.Prims) : impl_ProbeNew_T := impl_ProbeNew_f A (impl_isCell A)
noncomputable def impl_ProbeNew_L (A : PM.Prims) (c_96 : impl_isCell_T) (n : Nat) : PM.Lam := fun cur σ K =>
  match cur, σ, K with
  | _, _, _ => none
noncomputable def impl_ProbeNew_E (A : PM.Prims) (c_96 : impl_isCell_T) : PM.Env := ⟨[(96, ⟨[], impl_isCell_w c_96⟩)], [], [], [(0, [0, 2]), (1, [0, 2, 6]), (2, [2, 3]), (3, [2, 3])], impl_ProbeNew_L A c_96 A.fuel⟩
theorem impl_ProbeNew_ok (A : PM.Prims) (c_96 : impl_isCell_T) (cell : Int) (k : PM.V → PM.R) : PM.pfun A cx [] (impl_ProbeNew_E A c_96) Go.Proofs.Try.f26 [.int .i64 cell] k = impl_ProbeNew_f A c_96 cell (fun r0_Cell r0_Phase r0_Ver r0_Val r1 => k (.tup [.agg [.int .i64 r0_Cell, .int .i64 r0_Phase, .int .i64 r0_Ver, .int .i64 r0_Val], .bool r1])) := by kernel_rfl

theorem impl_ProbeNew_fn : PM.FnIs Try.prog 26 Try.f26 := .of Try.func26 (by kernel_rfl) (by kernel_rfl)
theorem impl_ProbeNew_g : PM.GOk Try.prog cx 26 ⟨[], impl_ProbeNew_w (impl_ProbeNew PM.std)⟩ := by
  refine ⟨impl_ProbeNew_fn.enter, fun _ ds k r h => ?_, fun hm => absurd rfl hm⟩
  change impl_ProbeNew_w (impl_ProbeNew PM.std) ds k = some r at h
  unfold impl_ProbeNew_w at h
  split at h
  · exact PM.pfun_ok (E := impl_ProbeNew_E PM.std (impl_isCell PM.std)) (L := fun n => impl_ProbeNew_L PM.std (impl_isCell PM.std) n) (N := PM.std.fuel) cx_ok (.cons impl_isCell_g .nil) mixed .nil impl_ProbeNew_fn (by kernel_rfl) ⟨rfl, fun _ _ _ => rfl, fun n cur σ K r h => by cases h⟩
      ((impl_ProbeNew_ok PM.std (impl_isCell PM.std) _ k).trans h)
  · cases h

abbrev laws_eqProbe_T := (Int) → (Int) → (Int) → (Int) → (Int) → (Int) → (Int) → (Int) → ((Bool) → PM.R) → PM.R
noncomputable def laws_eqProbe_w (c : laws_eqProbe_T) (ds : List PM.V) (k : PM.V → PM.R) : PM.R :=
  match ds with
  | [.agg [.int .i64 a_Cell, .int .i64 a_Phase, .int .i64 a_Ver, .int .i64 a_Val], .agg [.int .i64 b_Cell, .int .i64 b_Phase, .int .i64 b_Ver, .int .i64 b_Val]] => c a_Cell a_Phase a_Ver a_Val b_Cell b_Phase b_Ver b_Val (fun r0 => k (.bool r0))
  | _ => none
noncomputable def laws_eqProbe_f (A : PM.Prims) (a_Cell : Int) (a_Phase : Int) (a_Ver : Int) (a_Val : Int) (b_Cell : Int) (b_Phase : Int) (b_Ver : Int) (b_Val : Int) (k : (Bool) → PM.R) : PM.R :=
  bif (A.not (A.eq a_Cell b_Cell)) then
    k false
  else
    bif (A.not (A.eq a_Phase b_Phase)) then
      k false
    else
      bif (A.not (A.eq a_Ver b_Ver)) then
        k false
      else
        bif (A.not (A.eq a_Val b_Val)) then
          k false
        else
          k true
noncomputable def laws_eqProbe (A : PM.Prims) : laws_eqProbe_T := laws_eqProbe_f A
noncomputable def laws_eqProbe_L (A : PM.Prims) (n : Nat) : PM.Lam := fun cur σ K =>
  match cur, σ, K with
  | _, _, _ => none
noncomputable def laws_eqProbe_E (A : PM.Prims) : PM.Env := ⟨[], [], [], [(0, [2, 3]), (1, [2, 3, 9]), (2, [4]), (3, [2, 3, 14]), (4, [4]), (5, [2, 3, 19]), (6, [4]), (7, [24]), (8, [4]), (9, [4])], laws_eqProbe_L A A.fuel⟩
theorem laws_eqProbe_ok (A : PM.Prims) (a_Cell : Int) (a_Phase : Int) (a_Ver : Int) (a_Val : Int) (b_Cell : Int) (b_Phase : Int) (b_Ver : Int) (b_Val : Int) (k : PM.V → PM.R) : PM.pfun A cx [] (laws_eqProbe_E A) Go.Proofs.Try.f27 [.agg [.int .i64 a_Cell, .int .i64 a_Phase, .int .i64 a_Ver, .int .i64 a_Val], .agg [.int .i64 b_Cell, .int .i64 b_Phase, .int .i64 b_Ver, .int .i64 b_Val]] k = laws_eqProbe_f A a_Cell a_Phase a_Ver a_Val b_Cell b_Phase b_Ver b_Val (fun r0 => k (.bool r0)) := by kernel_rfl

theorem laws_eqProbe_fn : PM.FnIs Try.prog 27 Try.f27 := .of Try.func27 (by kernel_rfl) (by kernel_rfl)
theorem laws_eqProbe_g : PM.GOk Try.prog cx 27 ⟨[], laws_eqProbe_w (laws_eqProbe PM.std)⟩ := by
  refine ⟨laws_eqProbe_fn.enter, fun _ ds k r h => ?_, fun hm => absurd rfl hm⟩
  change laws_eqProbe_w (laws_eqProbe PM.std) ds k = some r at h
  unfold laws_eqProbe_w at h
  split at h
  · exact PM.pfun_ok (E := laws_eqProbe_E PM.std) (L := fun n => laws_eqProbe_L PM.std n) (N := PM.std.fuel) cx_ok .nil mixed .nil laws_eqProbe_fn (by kernel_rfl) ⟨rfl, fun _ _ _ => rfl, fun n cur σ K r h => by cases h⟩
      ((laws_eqProbe_ok PM.std _ _ _ _ _ _ _ _ k).trans h)
  · cases h

abbrev laws_FnExactProbeNew_T := (Int) → ((Bool) → PM.R) → PM.R
noncomputable def laws_FnExactProbeNew_w (c : laws_FnExactProbeNew_T) (ds : List PM.V) (k : PM.V → PM.R) : PM.R :=
  match ds with
  | [.int .i64 aCell] => c aCell (fun r0 => k (.bool r0))
  | _ => none
noncomputable def laws_FnExactProbeNew_f (A : PM.Prims) (c_25 : spec_ProbeNew_T) (c_26 : impl_ProbeNew_T) (c_27 : laws_eqProbe_T) (aCell : Int) (k : (Bool) → PM.R) : PM.R :=
  c_25 aCell (fun r1 r2 r3 r4 r5 =>
    c_26 aCell (fun r6 r7 r8 r9 r10 =>
      c_27 r6 r7 r8 r9 r1 r2 r3 r4 (fun r11 =>
        bif (A.not r11) then
          k false
        else
          bif (A.not (A.beq r10 r5)) then
            k false
          else
            k true)))
noncomputable def laws_FnExactProbeNew (A : PM.Prims) : laws_FnExactProbeNew_T := laws_FnExactProbeNew_f A (spec_ProbeNew A) (impl_ProbeNew A) (laws_eqProbe A)
noncomputable def laws_FnExactProbeNew_L (A : PM.Prims) (c_25 : spec_ProbeNew_T) (c_26 : impl_ProbeNew_T) (c_27 : laws_eqProbe_T) (n : Nat) : PM.Lam := fun cur σ K =>
  match cur, σ, K with
  | _, _, _ => none
noncomputable def laws_FnExactProbeNew_E (A : PM.Prims) (c_25 : spec_ProbeNew_T) (c_26 : impl_ProbeNew_T) (c_27 : laws_eqProbe_T) : PM.Env := ⟨[(25, ⟨[], spec_ProbeNew_w c_25⟩), (26, ⟨[], impl_ProbeNew_w c_26⟩), (27, ⟨[], laws_eqProbe_w c_27⟩)], [], [], [(0, [0]), (1, [0, 3, 4]), (2, [3, 4, 5, 6]), (3, [25]), (4, [2]), (5, [2])], laws_FnExactProbeNew_L A c_25 c_26 c_27 A.fuel⟩
theorem laws_FnExactProbeNew_ok (A : PM.Prims) (c_25 : spec_ProbeNew_T) (c_26 : impl_ProbeNew_T) (c_27 : laws_eqProbe_T) (aCell : Int) (k : PM.V → PM.R) : PM.pfun A cx [] (laws_FnExactProbeNew_E A c_25 c_26 c_27) Go.Proofs.Try.f4 [.int .i64 aCell] k = laws_FnExactProbeNew_f A c_25 c_26 c_27 aCell (fun r0 => k (.bool r0)) := by kernel_rfl

theorem laws_FnExactProbeNew_fn : PM.FnIs Try.prog 4 Try.f4 := .of Try.func4 (by kernel_rfl) (by kernel_rfl)
theorem laws_FnExactProbeNew_g : PM.GOk Try.prog cx 4 ⟨[], laws_FnExactProbeNew_w (laws_FnExactProbeNew PM.std)⟩ := by
  refine ⟨laws_FnExactProbeNew_fn.enter, fun _ ds k r h => ?_, fun hm => absurd rfl hm⟩
  change laws_FnExactProbeNew_w (laws_FnExactProbeNew PM.std) ds k = some r at h
  unfold laws_FnExactProbeNew_w at h
  split at h
  · exact PM.pfun_ok (E := laws_FnExactProbeNew_E PM.std (spec_ProbeNew PM.std) (impl_ProbeNew PM.std) (laws_eqProbe PM.std)) (L := fun n => laws_FnExactProbeNew_L PM.std (spec_ProbeNew PM.std) (impl_ProbeNew PM.std) (laws_eqProbe PM.std) n) (N := PM.std.fuel) cx_ok (.cons spec_ProbeNew_g (.cons impl_ProbeNew_g (.cons laws_eqProbe_g .nil))) mixed .nil laws_FnExactProbeNew_fn (by kernel_rfl) ⟨rfl, fun _ _ _ => rfl, fun n cur σ K r h => by cases h⟩
      ((laws_FnExactProbeNew_ok PM.std (spec_ProbeNew PM.std) (impl_ProbeNew PM.std) (laws_eqProbe PM.std) _ k).trans h)
  · cases h

end X
