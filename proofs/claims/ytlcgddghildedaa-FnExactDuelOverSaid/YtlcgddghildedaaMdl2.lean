/- Models of the functions, or plain laws about them; each theorem states its own conditions. -/
import Derived.Test.YtlcgddghildedaaL3
import Derived.Test.YtlcgddghildedaaProg
import Derived.KernelRfl
set_option linter.unusedVariables false
set_option linter.unusedSimpArgs false
open Go.Proofs
namespace X
open PM
set_option maxRecDepth 100000
set_option maxHeartbeats 4000000
noncomputable def cx : PM.Cx := [
  (2, ⟨1, false, [.int .i64 0], none, 0, none, [], [], [], [.int .i64], false⟩),
  (3, ⟨1, false, [.int .i64 0], none, 0, none, [], [], [], [.int .i64], false⟩),
  (4, ⟨1, false, [.bool false], none, 0, none, [], [], [], [.bool], false⟩),
  (5, ⟨1, false, [.int .u8 0], none, 0, none, [], [], [], [.int .u8], false⟩),
  (6, ⟨1, false, [.int .u8 0], none, 0, none, [], [], [], [.int .u8], false⟩),
  (7, ⟨4, true, [.int .i64 0, .int .i64 0, .bool false, .int .u8 0], none, 0, none, [0, 1, 2, 3], [1, 1, 1, 1], [2, 3, 4, 6], [.int .i64, .int .i64, .bool, .int .u8], true⟩),
  (8, ⟨4, true, [.int .i64 0, .int .i64 0, .bool false, .int .u8 0], none, 0, none, [0, 1, 2, 3], [1, 1, 1, 1], [2, 3, 4, 6], [.int .i64, .int .i64, .bool, .int .u8], true⟩),
  (12, ⟨1, false, [.int .u64 0], none, 0, none, [], [], [], [.int .u64], false⟩),
  (21, ⟨1, false, [.int .i32 0], none, 0, none, [], [], [], [.int .i32], false⟩),
  (22, ⟨1, false, [.arr (.emp (.ints 5 .u8))], some (.ints 5 .u8), 1, none, [], [], [], [.sl 22], false⟩),
  (24, ⟨1, false, [.arr (.emp (.ints 3 .i64))], some (.ints 3 .i64), 1, none, [], [], [], [.sl 24], false⟩),
  (25, ⟨1, false, [.arr (.emp (.rows 33))], some (.rows 33), 3, none, [], [], [], [.sl 25], false⟩),
  (31, ⟨1, false, [.arr (.emp (.vecs 161 2))], some (.vecs 161 2), 2, none, [], [], [], [.sl 31], false⟩),
  (32, ⟨3, true, [.int .i64 0, .int .i64 0, .arr (.emp (.vecs 161 2))], none, 0, none, [0, 1, 2], [1, 1, 1], [3, 3, 31], [.int .i64, .int .i64, .sl 31], false⟩),
  (33, ⟨3, true, [.int .i64 0, .int .i64 0, .arr (.emp (.vecs 161 2))], none, 0, none, [0, 1, 2], [1, 1, 1], [3, 3, 31], [.int .i64, .int .i64, .sl 31], false⟩),
  (39, ⟨1, false, [.arr (.emp (.vecs 354 3))], some (.vecs 354 3), 3, none, [], [], [], [.sl 39], false⟩),
  (40, ⟨2, true, [.int .i64 0, .arr (.emp (.vecs 354 3))], none, 0, none, [0, 1], [1, 1], [3, 39], [.int .i64, .sl 39], false⟩),
  (41, ⟨2, true, [.int .i64 0, .arr (.emp (.vecs 354 3))], none, 0, none, [0, 1], [1, 1], [3, 39], [.int .i64, .sl 39], false⟩),
  (42, ⟨2, true, [.arr (.emp (.ints 3 .i64)), .int .i64 0], none, 0, none, [0, 1], [1, 1], [24, 3], [.sl 24, .int .i64], false⟩),
  (43, ⟨2, true, [.arr (.emp (.ints 3 .i64)), .int .i64 0], none, 0, none, [0, 1], [1, 1], [24, 3], [.sl 24, .int .i64], false⟩),
  (44, ⟨1, false, [.arr (.emp (.vecs 277 3))], some (.vecs 277 3), 3, none, [], [], [], [.sl 44], false⟩),
  (46, ⟨1, false, [.arr (.emp (.rows 195))], some (.rows 195), 3, none, [], [], [], [.sl 46], false⟩),
  (51, ⟨1, false, [.arr (.emp (.vecs 287 3))], some (.vecs 287 3), 3, none, [], [], [], [.sl 51], false⟩),
  (52, ⟨2, true, [.int .i64 0, .arr (.emp (.vecs 287 3))], none, 0, none, [0, 1], [1, 1], [3, 51], [.int .i64, .sl 51], false⟩),
  (53, ⟨2, true, [.int .i64 0, .arr (.emp (.vecs 287 3))], none, 0, none, [0, 1], [1, 1], [3, 51], [.int .i64, .sl 51], false⟩),
  (54, ⟨2, true, [.arr (.emp (.ints 3 .i64)), .int .i64 0], none, 0, none, [0, 1], [1, 1], [24, 3], [.sl 24, .int .i64], false⟩),
  (55, ⟨1, false, [.arr (.emp (.vecs 275 3))], some (.vecs 275 3), 3, none, [], [], [], [.sl 55], false⟩),
  (62, ⟨1, false, [.arr (.emp (.rows 285))], some (.rows 285), 18, none, [], [], [], [.sl 62], false⟩),
  (63, ⟨4, true, [.int .i64 0, .arr (.emp (.vecs 354 3)), .arr (.emp (.rows 285)), .arr (.emp (.rows 195))], none, 0, none, [0, 2, 3], [2, 1, 1], [41, 62, 46], [.int .i64, .sl 39, .sl 62, .sl 46], false⟩),
  (64, ⟨4, true, [.int .i64 0, .arr (.emp (.vecs 354 3)), .arr (.emp (.rows 285)), .arr (.emp (.rows 195))], none, 0, none, [0, 2, 3], [2, 1, 1], [41, 62, 46], [.int .i64, .sl 39, .sl 62, .sl 46], false⟩),
  (68, ⟨1, false, [.arr (.emp (.rows 189))], some (.rows 189), 18, none, [], [], [], [.sl 68], false⟩),
  (69, ⟨4, true, [.int .i64 0, .arr (.emp (.vecs 287 3)), .arr (.emp (.rows 189)), .arr (.emp (.rows 33))], none, 0, none, [0, 2, 3], [2, 1, 1], [53, 68, 25], [.int .i64, .sl 51, .sl 68, .sl 25], false⟩),
  (70, ⟨4, true, [.int .i64 0, .arr (.emp (.vecs 287 3)), .arr (.emp (.rows 189)), .arr (.emp (.rows 33))], none, 0, none, [0, 2, 3], [2, 1, 1], [53, 68, 25], [.int .i64, .sl 51, .sl 68, .sl 25], false⟩),
  (78, ⟨1, false, [.arr (.emp (.rows 203))], some (.rows 203), 2, none, [], [], [], [.sl 78], false⟩),
  (81, ⟨1, false, [.arr (.emp (.rows 205))], some (.rows 205), 2, none, [], [], [], [.sl 81], false⟩),
  (90, ⟨1, false, [.arr (.emp (.vecs 297 2))], some (.vecs 297 2), 2, none, [], [], [], [.sl 90], false⟩),
  (91, ⟨1, false, [.arr (.emp (.vecs 299 3))], some (.vecs 299 3), 3, none, [], [], [], [.sl 91], false⟩),
  (92, ⟨1, false, [.arr (.emp (.rows 295))], some (.rows 295), 15, none, [], [], [], [.sl 92], false⟩),
  (93, ⟨10, true, [.int .i64 0, .int .i64 0, .int .i64 0, .bool false, .arr (.emp (.ints 3 .i64)), .arr (.emp (.vecs 297 2)), .arr (.emp (.vecs 299 3)), .arr (.emp (.ints 3 .i64)), .arr (.emp (.vecs 297 2)), .arr (.emp (.rows 295))], none, 0, none, [0, 1, 2, 3, 4, 5, 6, 7, 8, 9], [1, 1, 1, 1, 1, 1, 1, 1, 1, 1], [3, 3, 3, 4, 24, 90, 91, 24, 90, 92], [.int .i64, .int .i64, .int .i64, .bool, .sl 24, .sl 90, .sl 91, .sl 24, .sl 90, .sl 92], false⟩),
  (94, ⟨10, true, [.int .i64 0, .int .i64 0, .int .i64 0, .bool false, .arr (.emp (.ints 3 .i64)), .arr (.emp (.vecs 297 2)), .arr (.emp (.vecs 299 3)), .arr (.emp (.ints 3 .i64)), .arr (.emp (.vecs 297 2)), .arr (.emp (.rows 295))], none, 0, none, [0, 1, 2, 3, 4, 5, 6, 7, 8, 9], [1, 1, 1, 1, 1, 1, 1, 1, 1, 1], [3, 3, 3, 4, 24, 90, 91, 24, 90, 92], [.int .i64, .int .i64, .int .i64, .bool, .sl 24, .sl 90, .sl 91, .sl 24, .sl 90, .sl 92], false⟩),
  (97, ⟨1, false, [.arr (.emp (.vecs 225 3))], some (.vecs 225 3), 3, none, [], [], [], [.sl 97], false⟩),
  (98, ⟨1, false, [.arr (.emp (.rows 214))], some (.rows 214), 15, none, [], [], [], [.sl 98], false⟩),
  (99, ⟨10, true, [.int .i64 0, .int .i64 0, .int .i64 0, .bool false, .arr (.emp (.ints 3 .i64)), .arr (.emp (.vecs 161 2)), .arr (.emp (.vecs 225 3)), .arr (.emp (.ints 3 .i64)), .arr (.emp (.vecs 161 2)), .arr (.emp (.rows 214))], none, 0, none, [0, 1, 2, 3, 4, 5, 6, 7, 8, 9], [1, 1, 1, 1, 1, 1, 1, 1, 1, 1], [3, 3, 3, 4, 24, 31, 97, 24, 31, 98], [.int .i64, .int .i64, .int .i64, .bool, .sl 24, .sl 31, .sl 97, .sl 24, .sl 31, .sl 98], false⟩),
  (100, ⟨10, true, [.int .i64 0, .int .i64 0, .int .i64 0, .bool false, .arr (.emp (.ints 3 .i64)), .arr (.emp (.vecs 161 2)), .arr (.emp (.vecs 225 3)), .arr (.emp (.ints 3 .i64)), .arr (.emp (.vecs 161 2)), .arr (.emp (.rows 214))], none, 0, none, [0, 1, 2, 3, 4, 5, 6, 7, 8, 9], [1, 1, 1, 1, 1, 1, 1, 1, 1, 1], [3, 3, 3, 4, 24, 31, 97, 24, 31, 98], [.int .i64, .int .i64, .int .i64, .bool, .sl 24, .sl 31, .sl 97, .sl 24, .sl 31, .sl 98], false⟩),
  (112, ⟨1, false, [.arr (.emp (.rows 309))], some (.rows 309), 1, none, [], [], [], [.sl 112], false⟩),
  (113, ⟨5, true, [.arr (.emp (.ints 3 .i64)), .arr (.emp (.ints 3 .i64)), .arr (.emp (.vecs 297 2)), .arr (.emp (.rows 309)), .arr (.emp (.ints 3 .i64))], none, 0, none, [0, 1, 2, 3, 4], [1, 1, 1, 1, 1], [24, 24, 90, 112, 24], [.sl 24, .sl 24, .sl 90, .sl 112, .sl 24], false⟩),
  (114, ⟨5, true, [.arr (.emp (.ints 3 .i64)), .arr (.emp (.ints 3 .i64)), .arr (.emp (.vecs 297 2)), .arr (.emp (.rows 309)), .arr (.emp (.ints 3 .i64))], none, 0, none, [0, 1, 2, 3, 4], [1, 1, 1, 1, 1], [24, 24, 90, 112, 24], [.sl 24, .sl 24, .sl 90, .sl 112, .sl 24], false⟩),
  (117, ⟨1, false, [.arr (.emp (.rows 233))], some (.rows 233), 1, none, [], [], [], [.sl 117], false⟩),
  (118, ⟨5, true, [.arr (.emp (.ints 3 .i64)), .arr (.emp (.ints 3 .i64)), .arr (.emp (.vecs 161 2)), .arr (.emp (.rows 233)), .arr (.emp (.ints 3 .i64))], none, 0, none, [0, 1, 2, 3, 4], [1, 1, 1, 1, 1], [24, 24, 31, 117, 24], [.sl 24, .sl 24, .sl 31, .sl 117, .sl 24], false⟩),
  (119, ⟨5, true, [.arr (.emp (.ints 3 .i64)), .arr (.emp (.ints 3 .i64)), .arr (.emp (.vecs 161 2)), .arr (.emp (.rows 233)), .arr (.emp (.ints 3 .i64))], none, 0, none, [0, 1, 2, 3, 4], [1, 1, 1, 1, 1], [24, 24, 31, 117, 24], [.sl 24, .sl 24, .sl 31, .sl 117, .sl 24], false⟩),
  (127, ⟨3, true, [.arr (.emp (.ints 3 .i64)), .arr (.emp (.ints 3 .i64)), .int .i64 0], none, 0, none, [0, 1, 2], [1, 1, 1], [24, 24, 3], [.sl 24, .sl 24, .int .i64], false⟩),
  (128, ⟨3, true, [.arr (.emp (.ints 3 .i64)), .arr (.emp (.ints 3 .i64)), .int .i64 0], none, 0, none, [0, 1, 2], [1, 1, 1], [24, 24, 3], [.sl 24, .sl 24, .int .i64], false⟩),
  (129, ⟨1, false, [.arr (.emp (.rows 317))], some (.rows 317), 2, none, [], [], [], [.sl 129], false⟩),
  (130, ⟨1, false, [.arr (.emp (.vecs 322 3))], some (.vecs 322 3), 3, none, [], [], [], [.sl 130], false⟩),
  (131, ⟨5, true, [.arr (.emp (.ints 3 .i64)), .arr (.emp (.ints 3 .i64)), .int .i64 0, .arr (.emp (.rows 317)), .arr (.emp (.vecs 322 3))], none, 0, none, [0, 3, 4], [3, 1, 1], [128, 129, 130], [.sl 24, .sl 24, .int .i64, .sl 129, .sl 130], false⟩),
  (132, ⟨5, true, [.arr (.emp (.ints 3 .i64)), .arr (.emp (.ints 3 .i64)), .int .i64 0, .arr (.emp (.rows 317)), .arr (.emp (.vecs 322 3))], none, 0, none, [0, 3, 4], [3, 1, 1], [128, 129, 130], [.sl 24, .sl 24, .int .i64, .sl 129, .sl 130], false⟩),
  (135, ⟨3, true, [.arr (.emp (.ints 3 .i64)), .arr (.emp (.ints 3 .i64)), .int .i64 0], none, 0, none, [0, 1, 2], [1, 1, 1], [24, 24, 3], [.sl 24, .sl 24, .int .i64], false⟩),
  (136, ⟨1, false, [.arr (.emp (.rows 242))], some (.rows 242), 2, none, [], [], [], [.sl 136], false⟩),
  (137, ⟨1, false, [.arr (.emp (.vecs 320 3))], some (.vecs 320 3), 3, none, [], [], [], [.sl 137], false⟩),
  (138, ⟨5, true, [.arr (.emp (.ints 3 .i64)), .arr (.emp (.ints 3 .i64)), .int .i64 0, .arr (.emp (.rows 242)), .arr (.emp (.vecs 320 3))], none, 0, none, [0, 3, 4], [3, 1, 1], [135, 136, 137], [.sl 24, .sl 24, .int .i64, .sl 136, .sl 137], false⟩),
  (139, ⟨5, true, [.arr (.emp (.ints 3 .i64)), .arr (.emp (.ints 3 .i64)), .int .i64 0, .arr (.emp (.rows 242)), .arr (.emp (.vecs 320 3))], none, 0, none, [0, 3, 4], [3, 1, 1], [135, 136, 137], [.sl 24, .sl 24, .int .i64, .sl 136, .sl 137], false⟩),
  (160, ⟨2, true, [.int .i64 0, .int .i64 0], none, 0, none, [0, 1], [1, 1], [3, 3], [.int .i64, .int .i64], true⟩),
  (161, ⟨2, true, [.int .i64 0, .int .i64 0], none, 0, none, [0, 1], [1, 1], [3, 3], [.int .i64, .int .i64], true⟩),
  (168, ⟨1, false, [.arr (.emp (.rows 396))], some (.rows 396), 5, none, [], [], [], [.sl 168], false⟩),
  (169, ⟨1, false, [.arr (.emp (.vecs 399 3))], some (.vecs 399 3), 3, none, [], [], [], [.sl 169], false⟩),
  (170, ⟨4, true, [.int .i64 0, .int .i64 0, .int .i64 0, .int .i64 0], none, 0, none, [0, 1, 2, 3], [1, 1, 1, 1], [3, 3, 3, 3], [.int .i64, .int .i64, .int .i64, .int .i64], true⟩),
  (171, ⟨4, true, [.int .i64 0, .int .i64 0, .int .i64 0, .int .i64 0], none, 0, none, [0, 1, 2, 3], [1, 1, 1, 1], [3, 3, 3, 3], [.int .i64, .int .i64, .int .i64, .int .i64], true⟩),
  (172, ⟨7, true, [.int .i64 0, .int .i64 0, .int .i64 0, .int .i64 0, .int .i64 0, .arr (.emp (.vecs 161 2)), .arr (.emp (.ints 3 .i64))], none, 0, none, [0, 1, 2, 3, 4, 5, 6], [1, 1, 1, 1, 1, 1, 1], [3, 3, 3, 3, 3, 31, 24], [.int .i64, .int .i64, .int .i64, .int .i64, .int .i64, .sl 31, .sl 24], false⟩),
  (173, ⟨7, true, [.int .i64 0, .int .i64 0, .int .i64 0, .int .i64 0, .int .i64 0, .arr (.emp (.vecs 161 2)), .arr (.emp (.ints 3 .i64))], none, 0, none, [0, 1, 2, 3, 4, 5, 6], [1, 1, 1, 1, 1, 1, 1], [3, 3, 3, 3, 3, 31, 24], [.int .i64, .int .i64, .int .i64, .int .i64, .int .i64, .sl 31, .sl 24], false⟩),
  (174, ⟨40, true, [.int .i64 0, .int .i64 0, .int .i64 0, .int .i64 0, .int .i64 0, .int .i64 0, .int .i64 0, .int .i64 0, .int .i64 0, .int .i64 0, .int .i64 0, .bool false, .arr (.emp (.ints 3 .i64)), .arr (.emp (.vecs 161 2)), .arr (.emp (.vecs 161 2)), .arr (.emp (.rows 396)), .arr (.emp (.vecs 399 3)), .arr (.emp (.ints 3 .i64)), .bool false, .int .i64 0, .int .i64 0, .int .i64 0, .int .i64 0, .int .i64 0, .int .i64 0, .int .i64 0, .int .i64 0, .int .i64 0, .arr (.emp (.vecs 161 2)), .arr (.emp (.ints 3 .i64)), .int .i64 0, .int .i64 0, .int .i64 0, .bool false, .arr (.emp (.ints 3 .i64)), .arr (.emp (.vecs 161 2)), .arr (.emp (.vecs 225 3)), .arr (.emp (.ints 3 .i64)), .arr (.emp (.vecs 161 2)), .arr (.emp (.rows 214))], none, 0, none, [0, 1, 2, 3, 4, 5, 6, 7, 8, 9, 10, 11, 12, 13, 14, 15, 16, 17, 18, 19, 23, 30], [1, 1, 1, 1, 1, 1, 1, 1, 1, 1, 1, 1, 1, 1, 1, 1, 1, 1, 1, 4, 7, 10], [3, 3, 3, 3, 3, 3, 3, 3, 3, 3, 3, 4, 24, 31, 31, 168, 169, 24, 4, 171, 173, 100], [.int .i64, .int .i64, .int .i64, .int .i64, .int .i64, .int .i64, .int .i64, .int .i64, .int .i64, .int .i64, .int .i64, .bool, .sl 24, .sl 31, .sl 31, .sl 168, .sl 169, .sl 24, .bool, .int .i64, .int .i64, .int .i64, .int .i64, .int .i64, .int .i64, .int .i64, .int .i64, .int .i64, .sl 31, .sl 24, .int .i64, .int .i64, .int .i64, .bool, .sl 24, .sl 31, .sl 97, .sl 24, .sl 31, .sl 98], false⟩),
  (175, ⟨40, true, [.int .i64 0, .int .i64 0, .int .i64 0, .int .i64 0, .int .i64 0, .int .i64 0, .int .i64 0, .int .i64 0, .int .i64 0, .int .i64 0, .int .i64 0, .bool false, .arr (.emp (.ints 3 .i64)), .arr (.emp (.vecs 161 2)), .arr (.emp (.vecs 161 2)), .arr (.emp (.rows 396)), .arr (.emp (.vecs 399 3)), .arr (.emp (.ints 3 .i64)), .bool false, .int .i64 0, .int .i64 0, .int .i64 0, .int .i64 0, .int .i64 0, .int .i64 0, .int .i64 0, .int .i64 0, .int .i64 0, .arr (.emp (.vecs 161 2)), .arr (.emp (.ints 3 .i64)), .int .i64 0, .int .i64 0, .int .i64 0, .bool false, .arr (.emp (.ints 3 .i64)), .arr (.emp (.vecs 161 2)), .arr (.emp (.vecs 225 3)), .arr (.emp (.ints 3 .i64)), .arr (.emp (.vecs 161 2)), .arr (.emp (.rows 214))], none, 0, none, [0, 1, 2, 3, 4, 5, 6, 7, 8, 9, 10, 11, 12, 13, 14, 15, 16, 17, 18, 19, 23, 30], [1, 1, 1, 1, 1, 1, 1, 1, 1, 1, 1, 1, 1, 1, 1, 1, 1, 1, 1, 4, 7, 10], [3, 3, 3, 3, 3, 3, 3, 3, 3, 3, 3, 4, 24, 31, 31, 168, 169, 24, 4, 171, 173, 100], [.int .i64, .int .i64, .int .i64, .int .i64, .int .i64, .int .i64, .int .i64, .int .i64, .int .i64, .int .i64, .int .i64, .bool, .sl 24, .sl 31, .sl 31, .sl 168, .sl 169, .sl 24, .bool, .int .i64, .int .i64, .int .i64, .int .i64, .int .i64, .int .i64, .int .i64, .int .i64, .int .i64, .sl 31, .sl 24, .int .i64, .int .i64, .int .i64, .bool, .sl 24, .sl 31, .sl 97, .sl 24, .sl 31, .sl 98], false⟩),
  (188, ⟨18, true, [.int .i64 0, .int .i64 0, .int .i64 0, .int .i64 0, .int .i64 0, .arr (.emp (.vecs 161 2)), .bool false, .int .i64 0, .int .i64 0, .int .i64 0, .int .i64 0, .int .i64 0, .int .i64 0, .int .i64 0, .int .i64 0, .int .i64 0, .arr (.emp (.vecs 161 2)), .arr (.emp (.ints 3 .i64))], none, 0, none, [0, 1, 2, 3, 4, 5, 6, 7, 11], [1, 1, 1, 1, 1, 1, 1, 4, 7], [3, 3, 3, 3, 3, 31, 4, 171, 173], [.int .i64, .int .i64, .int .i64, .int .i64, .int .i64, .sl 31, .bool, .int .i64, .int .i64, .int .i64, .int .i64, .int .i64, .int .i64, .int .i64, .int .i64, .int .i64, .sl 31, .sl 24], false⟩),
  (189, ⟨18, true, [.int .i64 0, .int .i64 0, .int .i64 0, .int .i64 0, .int .i64 0, .arr (.emp (.vecs 161 2)), .bool false, .int .i64 0, .int .i64 0, .int .i64 0, .int .i64 0, .int .i64 0, .int .i64 0, .int .i64 0, .int .i64 0, .int .i64 0, .arr (.emp (.vecs 161 2)), .arr (.emp (.ints 3 .i64))], none, 0, none, [0, 1, 2, 3, 4, 5, 6, 7, 11], [1, 1, 1, 1, 1, 1, 1, 4, 7], [3, 3, 3, 3, 3, 31, 4, 171, 173], [.int .i64, .int .i64, .int .i64, .int .i64, .int .i64, .sl 31, .bool, .int .i64, .int .i64, .int .i64, .int .i64, .int .i64, .int .i64, .int .i64, .int .i64, .int .i64, .sl 31, .sl 24], false⟩),
  (194, ⟨3, true, [.int .i64 0, .int .i64 0, .arr (.emp (.vecs 297 2))], none, 0, none, [0, 1, 2], [1, 1, 1], [3, 3, 90], [.int .i64, .int .i64, .sl 90], false⟩),
  (195, ⟨3, true, [.int .i64 0, .int .i64 0, .arr (.emp (.vecs 297 2))], none, 0, none, [0, 1, 2], [1, 1, 1], [3, 3, 90], [.int .i64, .int .i64, .sl 90], false⟩),
  (202, ⟨2, true, [.arr (.emp (.ints 3 .i64)), .arr (.emp (.vecs 297 2))], none, 0, none, [0, 1], [1, 1], [24, 90], [.sl 24, .sl 90], false⟩),
  (203, ⟨2, true, [.arr (.emp (.ints 3 .i64)), .arr (.emp (.vecs 297 2))], none, 0, none, [0, 1], [1, 1], [24, 90], [.sl 24, .sl 90], false⟩),
  (204, ⟨2, true, [.arr (.emp (.ints 3 .i64)), .arr (.emp (.vecs 161 2))], none, 0, none, [0, 1], [1, 1], [24, 31], [.sl 24, .sl 31], false⟩),
  (205, ⟨2, true, [.arr (.emp (.ints 3 .i64)), .arr (.emp (.vecs 161 2))], none, 0, none, [0, 1], [1, 1], [24, 31], [.sl 24, .sl 31], false⟩),
  (212, ⟨1, false, [.arr (.emp (.rows 368))], some (.rows 368), 3, none, [], [], [], [.sl 212], false⟩),
  (213, ⟨15, true, [.int .i64 0, .int .i64 0, .int .i64 0, .int .i64 0, .int .i64 0, .int .i64 0, .arr (.emp (.ints 3 .i64)), .arr (.emp (.vecs 225 3)), .arr (.emp (.vecs 161 2)), .arr (.emp (.rows 368)), .bool false, .int .i64 0, .int .i64 0, .int .i64 0, .int .i64 0], none, 0, none, [0, 1, 2, 3, 4, 5, 6, 7, 8, 9, 10, 11], [1, 1, 1, 1, 1, 1, 1, 1, 1, 1, 1, 4], [3, 3, 3, 3, 3, 3, 24, 97, 31, 212, 4, 171], [.int .i64, .int .i64, .int .i64, .int .i64, .int .i64, .int .i64, .sl 24, .sl 97, .sl 31, .sl 212, .bool, .int .i64, .int .i64, .int .i64, .int .i64], false⟩),
  (214, ⟨15, true, [.int .i64 0, .int .i64 0, .int .i64 0, .int .i64 0, .int .i64 0, .int .i64 0, .arr (.emp (.ints 3 .i64)), .arr (.emp (.vecs 225 3)), .arr (.emp (.vecs 161 2)), .arr (.emp (.rows 368)), .bool false, .int .i64 0, .int .i64 0, .int .i64 0, .int .i64 0], none, 0, none, [0, 1, 2, 3, 4, 5, 6, 7, 8, 9, 10, 11], [1, 1, 1, 1, 1, 1, 1, 1, 1, 1, 1, 4], [3, 3, 3, 3, 3, 3, 24, 97, 31, 212, 4, 171], [.int .i64, .int .i64, .int .i64, .int .i64, .int .i64, .int .i64, .sl 24, .sl 97, .sl 31, .sl 212, .bool, .int .i64, .int .i64, .int .i64, .int .i64], false⟩),
  (224, ⟨3, true, [.int .i64 0, .int .i64 0, .int .i64 0], none, 0, none, [0, 1, 2], [1, 1, 1], [3, 3, 3], [.int .i64, .int .i64, .int .i64], true⟩),
  (225, ⟨3, true, [.int .i64 0, .int .i64 0, .int .i64 0], none, 0, none, [0, 1, 2], [1, 1, 1], [3, 3, 3], [.int .i64, .int .i64, .int .i64], true⟩),
  (231, ⟨1, false, [.arr (.emp (.vecs 312 4))], some (.vecs 312 4), 4, none, [], [], [], [.sl 231], false⟩),
  (232, ⟨1, true, [.arr (.emp (.vecs 312 4))], none, 0, none, [0], [1], [231], [.sl 231], false⟩),
  (233, ⟨1, true, [.arr (.emp (.vecs 312 4))], none, 0, none, [0], [1], [231], [.sl 231], false⟩),
  (241, ⟨2, true, [.arr (.emp (.vecs 312 4)), .arr (.emp (.rows 233))], none, 0, none, [0, 1], [1, 1], [231, 117], [.sl 231, .sl 117], false⟩),
  (242, ⟨2, true, [.arr (.emp (.vecs 312 4)), .arr (.emp (.rows 233))], none, 0, none, [0, 1], [1, 1], [231, 117], [.sl 231, .sl 117], false⟩),
  (256, ⟨3, true, [.arr (.emp (.ints 5 .u8)), .int .i64 0, .int .i64 0], none, 0, none, [0, 1, 2], [1, 1, 1], [22, 3, 3], [.sl 22, .int .i64, .int .i64], false⟩),
  (257, ⟨3, true, [.arr (.emp (.ints 5 .u8)), .int .i64 0, .int .i64 0], none, 0, none, [0, 1, 2], [1, 1, 1], [22, 3, 3], [.sl 22, .int .i64, .int .i64], false⟩),
  (262, ⟨1, false, [.int .u64 0], none, 0, none, [], [], [], [.int .u64], false⟩),
  (266, ⟨1, false, [.arr (.emp (.rows 395))], some (.rows 395), 5, none, [], [], [], [.sl 266], false⟩),
  (267, ⟨1, false, [.arr (.emp (.vecs 401 3))], some (.vecs 401 3), 3, none, [], [], [], [.sl 267], false⟩),
  (268, ⟨4, true, [.int .i64 0, .int .i64 0, .int .i64 0, .int .i64 0], none, 0, none, [0, 1, 2, 3], [1, 1, 1, 1], [3, 3, 3, 3], [.int .i64, .int .i64, .int .i64, .int .i64], true⟩),
  (269, ⟨7, true, [.int .i64 0, .int .i64 0, .int .i64 0, .int .i64 0, .int .i64 0, .arr (.emp (.vecs 297 2)), .arr (.emp (.ints 3 .i64))], none, 0, none, [0, 1, 2, 3, 4, 5, 6], [1, 1, 1, 1, 1, 1, 1], [3, 3, 3, 3, 3, 90, 24], [.int .i64, .int .i64, .int .i64, .int .i64, .int .i64, .sl 90, .sl 24], false⟩),
  (270, ⟨7, true, [.int .i64 0, .int .i64 0, .int .i64 0, .int .i64 0, .int .i64 0, .arr (.emp (.vecs 297 2)), .arr (.emp (.ints 3 .i64))], none, 0, none, [0, 1, 2, 3, 4, 5, 6], [1, 1, 1, 1, 1, 1, 1], [3, 3, 3, 3, 3, 90, 24], [.int .i64, .int .i64, .int .i64, .int .i64, .int .i64, .sl 90, .sl 24], false⟩),
  (271, ⟨40, true, [.int .i64 0, .int .i64 0, .int .i64 0, .int .i64 0, .int .i64 0, .int .i64 0, .int .i64 0, .int .i64 0, .int .i64 0, .int .i64 0, .int .i64 0, .bool false, .arr (.emp (.ints 3 .i64)), .arr (.emp (.vecs 297 2)), .arr (.emp (.vecs 297 2)), .arr (.emp (.rows 395)), .arr (.emp (.vecs 401 3)), .arr (.emp (.ints 3 .i64)), .bool false, .int .i64 0, .int .i64 0, .int .i64 0, .int .i64 0, .int .i64 0, .int .i64 0, .int .i64 0, .int .i64 0, .int .i64 0, .arr (.emp (.vecs 297 2)), .arr (.emp (.ints 3 .i64)), .int .i64 0, .int .i64 0, .int .i64 0, .bool false, .arr (.emp (.ints 3 .i64)), .arr (.emp (.vecs 297 2)), .arr (.emp (.vecs 299 3)), .arr (.emp (.ints 3 .i64)), .arr (.emp (.vecs 297 2)), .arr (.emp (.rows 295))], none, 0, none, [0, 1, 2, 3, 4, 5, 6, 7, 8, 9, 10, 11, 12, 13, 14, 15, 16, 17, 18, 19, 23, 30], [1, 1, 1, 1, 1, 1, 1, 1, 1, 1, 1, 1, 1, 1, 1, 1, 1, 1, 1, 4, 7, 10], [3, 3, 3, 3, 3, 3, 3, 3, 3, 3, 3, 4, 24, 90, 90, 266, 267, 24, 4, 268, 270, 94], [.int .i64, .int .i64, .int .i64, .int .i64, .int .i64, .int .i64, .int .i64, .int .i64, .int .i64, .int .i64, .int .i64, .bool, .sl 24, .sl 90, .sl 90, .sl 266, .sl 267, .sl 24, .bool, .int .i64, .int .i64, .int .i64, .int .i64, .int .i64, .int .i64, .int .i64, .int .i64, .int .i64, .sl 90, .sl 24, .int .i64, .int .i64, .int .i64, .bool, .sl 24, .sl 90, .sl 91, .sl 24, .sl 90, .sl 92], false⟩),
  (272, ⟨40, true, [.int .i64 0, .int .i64 0, .int .i64 0, .int .i64 0, .int .i64 0, .int .i64 0, .int .i64 0, .int .i64 0, .int .i64 0, .int .i64 0, .int .i64 0, .bool false, .arr (.emp (.ints 3 .i64)), .arr (.emp (.vecs 297 2)), .arr (.emp (.vecs 297 2)), .arr (.emp (.rows 395)), .arr (.emp (.vecs 401 3)), .arr (.emp (.ints 3 .i64)), .bool false, .int .i64 0, .int .i64 0, .int .i64 0, .int .i64 0, .int .i64 0, .int .i64 0, .int .i64 0, .int .i64 0, .int .i64 0, .arr (.emp (.vecs 297 2)), .arr (.emp (.ints 3 .i64)), .int .i64 0, .int .i64 0, .int .i64 0, .bool false, .arr (.emp (.ints 3 .i64)), .arr (.emp (.vecs 297 2)), .arr (.emp (.vecs 299 3)), .arr (.emp (.ints 3 .i64)), .arr (.emp (.vecs 297 2)), .arr (.emp (.rows 295))], none, 0, none, [0, 1, 2, 3, 4, 5, 6, 7, 8, 9, 10, 11, 12, 13, 14, 15, 16, 17, 18, 19, 23, 30], [1, 1, 1, 1, 1, 1, 1, 1, 1, 1, 1, 1, 1, 1, 1, 1, 1, 1, 1, 4, 7, 10], [3, 3, 3, 3, 3, 3, 3, 3, 3, 3, 3, 4, 24, 90, 90, 266, 267, 24, 4, 268, 270, 94], [.int .i64, .int .i64, .int .i64, .int .i64, .int .i64, .int .i64, .int .i64, .int .i64, .int .i64, .int .i64, .int .i64, .bool, .sl 24, .sl 90, .sl 90, .sl 266, .sl 267, .sl 24, .bool, .int .i64, .int .i64, .int .i64, .int .i64, .int .i64, .int .i64, .int .i64, .int .i64, .int .i64, .sl 90, .sl 24, .int .i64, .int .i64, .int .i64, .bool, .sl 24, .sl 90, .sl 91, .sl 24, .sl 90, .sl 92], false⟩),
  (274, ⟨3, true, [.int .i64 0, .int .i64 0, .int .i64 0], none, 0, none, [0, 1, 2], [1, 1, 1], [3, 3, 3], [.int .i64, .int .i64, .int .i64], true⟩),
  (275, ⟨3, true, [.int .i64 0, .int .i64 0, .int .i64 0], none, 0, none, [0, 1, 2], [1, 1, 1], [3, 3, 3], [.int .i64, .int .i64, .int .i64], true⟩),
  (277, ⟨3, true, [.int .i64 0, .int .i64 0, .int .i64 0], none, 0, none, [0, 1, 2], [1, 1, 1], [3, 3, 3], [.int .i64, .int .i64, .int .i64], true⟩),
  (284, ⟨18, true, [.int .i64 0, .int .i64 0, .int .i64 0, .int .i64 0, .int .i64 0, .arr (.emp (.vecs 297 2)), .bool false, .int .i64 0, .int .i64 0, .int .i64 0, .int .i64 0, .int .i64 0, .int .i64 0, .int .i64 0, .int .i64 0, .int .i64 0, .arr (.emp (.vecs 297 2)), .arr (.emp (.ints 3 .i64))], none, 0, none, [0, 1, 2, 3, 4, 5, 6, 7, 11], [1, 1, 1, 1, 1, 1, 1, 4, 7], [3, 3, 3, 3, 3, 90, 4, 268, 270], [.int .i64, .int .i64, .int .i64, .int .i64, .int .i64, .sl 90, .bool, .int .i64, .int .i64, .int .i64, .int .i64, .int .i64, .int .i64, .int .i64, .int .i64, .int .i64, .sl 90, .sl 24], false⟩),
  (285, ⟨18, true, [.int .i64 0, .int .i64 0, .int .i64 0, .int .i64 0, .int .i64 0, .arr (.emp (.vecs 297 2)), .bool false, .int .i64 0, .int .i64 0, .int .i64 0, .int .i64 0, .int .i64 0, .int .i64 0, .int .i64 0, .int .i64 0, .int .i64 0, .arr (.emp (.vecs 297 2)), .arr (.emp (.ints 3 .i64))], none, 0, none, [0, 1, 2, 3, 4, 5, 6, 7, 11], [1, 1, 1, 1, 1, 1, 1, 4, 7], [3, 3, 3, 3, 3, 90, 4, 268, 270], [.int .i64, .int .i64, .int .i64, .int .i64, .int .i64, .sl 90, .bool, .int .i64, .int .i64, .int .i64, .int .i64, .int .i64, .int .i64, .int .i64, .int .i64, .int .i64, .sl 90, .sl 24], false⟩),
  (286, ⟨3, true, [.int .i64 0, .int .i64 0, .int .i64 0], none, 0, none, [0, 1, 2], [1, 1, 1], [3, 3, 3], [.int .i64, .int .i64, .int .i64], true⟩),
  (287, ⟨3, true, [.int .i64 0, .int .i64 0, .int .i64 0], none, 0, none, [0, 1, 2], [1, 1, 1], [3, 3, 3], [.int .i64, .int .i64, .int .i64], true⟩),
  (293, ⟨1, false, [.arr (.emp (.rows 405))], some (.rows 405), 3, none, [], [], [], [.sl 293], false⟩),
  (294, ⟨15, true, [.int .i64 0, .int .i64 0, .int .i64 0, .int .i64 0, .int .i64 0, .int .i64 0, .arr (.emp (.ints 3 .i64)), .arr (.emp (.vecs 299 3)), .arr (.emp (.vecs 297 2)), .arr (.emp (.rows 405)), .bool false, .int .i64 0, .int .i64 0, .int .i64 0, .int .i64 0], none, 0, none, [0, 1, 2, 3, 4, 5, 6, 7, 8, 9, 10, 11], [1, 1, 1, 1, 1, 1, 1, 1, 1, 1, 1, 4], [3, 3, 3, 3, 3, 3, 24, 91, 90, 293, 4, 268], [.int .i64, .int .i64, .int .i64, .int .i64, .int .i64, .int .i64, .sl 24, .sl 91, .sl 90, .sl 293, .bool, .int .i64, .int .i64, .int .i64, .int .i64], false⟩),
  (295, ⟨15, true, [.int .i64 0, .int .i64 0, .int .i64 0, .int .i64 0, .int .i64 0, .int .i64 0, .arr (.emp (.ints 3 .i64)), .arr (.emp (.vecs 299 3)), .arr (.emp (.vecs 297 2)), .arr (.emp (.rows 405)), .bool false, .int .i64 0, .int .i64 0, .int .i64 0, .int .i64 0], none, 0, none, [0, 1, 2, 3, 4, 5, 6, 7, 8, 9, 10, 11], [1, 1, 1, 1, 1, 1, 1, 1, 1, 1, 1, 4], [3, 3, 3, 3, 3, 3, 24, 91, 90, 293, 4, 268], [.int .i64, .int .i64, .int .i64, .int .i64, .int .i64, .int .i64, .sl 24, .sl 91, .sl 90, .sl 293, .bool, .int .i64, .int .i64, .int .i64, .int .i64], false⟩),
  (297, ⟨2, true, [.int .i64 0, .int .i64 0], none, 0, none, [0, 1], [1, 1], [3, 3], [.int .i64, .int .i64], true⟩),
  (299, ⟨3, true, [.int .i64 0, .int .i64 0, .int .i64 0], none, 0, none, [0, 1, 2], [1, 1, 1], [3, 3, 3], [.int .i64, .int .i64, .int .i64], true⟩),
  (307, ⟨1, false, [.arr (.emp (.vecs 409 4))], some (.vecs 409 4), 4, none, [], [], [], [.sl 307], false⟩),
  (308, ⟨1, true, [.arr (.emp (.vecs 409 4))], none, 0, none, [0], [1], [307], [.sl 307], false⟩),
  (309, ⟨1, true, [.arr (.emp (.vecs 409 4))], none, 0, none, [0], [1], [307], [.sl 307], false⟩),
  (311, ⟨4, true, [.int .i64 0, .int .i64 0, .int .i64 0, .int .i64 0], none, 0, none, [0, 1, 2, 3], [1, 1, 1, 1], [3, 3, 3, 3], [.int .i64, .int .i64, .int .i64, .int .i64], true⟩),
  (312, ⟨4, true, [.int .i64 0, .int .i64 0, .int .i64 0, .int .i64 0], none, 0, none, [0, 1, 2, 3], [1, 1, 1, 1], [3, 3, 3, 3], [.int .i64, .int .i64, .int .i64, .int .i64], true⟩),
  (316, ⟨2, true, [.arr (.emp (.vecs 409 4)), .arr (.emp (.rows 309))], none, 0, none, [0, 1], [1, 1], [307, 112], [.sl 307, .sl 112], false⟩),
  (317, ⟨2, true, [.arr (.emp (.vecs 409 4)), .arr (.emp (.rows 309))], none, 0, none, [0, 1], [1, 1], [307, 112], [.sl 307, .sl 112], false⟩),
  (319, ⟨3, true, [.int .i64 0, .int .i64 0, .int .i64 0], none, 0, none, [0, 1, 2], [1, 1, 1], [3, 3, 3], [.int .i64, .int .i64, .int .i64], true⟩),
  (320, ⟨3, true, [.int .i64 0, .int .i64 0, .int .i64 0], none, 0, none, [0, 1, 2], [1, 1, 1], [3, 3, 3], [.int .i64, .int .i64, .int .i64], true⟩),
  (322, ⟨3, true, [.int .i64 0, .int .i64 0, .int .i64 0], none, 0, none, [0, 1, 2], [1, 1, 1], [3, 3, 3], [.int .i64, .int .i64, .int .i64], true⟩),
  (326, ⟨1, false, [.arr (.emp (.bools 4))], some (.bools 4), 1, none, [], [], [], [.sl 326], false⟩),
  (327, ⟨5, true, [.int .i64 0, .arr (.emp (.ints 3 .i64)), .arr (.emp (.ints 3 .i64)), .arr (.emp (.ints 3 .i64)), .int .i64 0], none, 0, none, [0, 1, 2], [1, 1, 3], [3, 24, 135], [.int .i64, .sl 24, .sl 24, .sl 24, .int .i64], false⟩),
  (328, ⟨5, true, [.int .i64 0, .arr (.emp (.ints 3 .i64)), .arr (.emp (.ints 3 .i64)), .arr (.emp (.ints 3 .i64)), .int .i64 0], none, 0, none, [0, 1, 2], [1, 1, 3], [3, 24, 135], [.int .i64, .sl 24, .sl 24, .sl 24, .int .i64], false⟩),
  (334, ⟨1, false, [.int .i64 0], none, 0, none, [], [], [], [.int .i64], false⟩),
  (341, ⟨1, false, [.int .u32 0], none, 0, none, [], [], [], [.int .u32], false⟩),
  (343, ⟨1, false, [.int .u64 0], none, 0, none, [], [], [], [.int .u64], false⟩),
  (354, ⟨3, true, [.int .i64 0, .int .i64 0, .int .i64 0], none, 0, none, [0, 1, 2], [1, 1, 1], [3, 3, 3], [.int .i64, .int .i64, .int .i64], true⟩),
  (367, ⟨3, true, [.int .i64 0, .int .i64 0, .arr (.emp (.ints 3 .i64))], none, 0, none, [0, 1, 2], [1, 1, 1], [3, 3, 24], [.int .i64, .int .i64, .sl 24], false⟩),
  (368, ⟨3, true, [.int .i64 0, .int .i64 0, .arr (.emp (.ints 3 .i64))], none, 0, none, [0, 1, 2], [1, 1, 1], [3, 3, 24], [.int .i64, .int .i64, .sl 24], false⟩),
  (376, ⟨1, false, [.arr (.emp (.rows 378))], some (.rows 378), 5, none, [], [], [], [.sl 376], false⟩),
  (377, ⟨5, true, [.int .i64 0, .arr (.emp (.ints 3 .i64)), .arr (.emp (.ints 3 .i64)), .arr (.emp (.ints 3 .i64)), .int .i64 0], none, 0, none, [0, 1, 2], [1, 1, 3], [3, 24, 135], [.int .i64, .sl 24, .sl 24, .sl 24, .int .i64], false⟩),
  (378, ⟨5, true, [.int .i64 0, .arr (.emp (.ints 3 .i64)), .arr (.emp (.ints 3 .i64)), .arr (.emp (.ints 3 .i64)), .int .i64 0], none, 0, none, [0, 1, 2], [1, 1, 3], [3, 24, 135], [.int .i64, .sl 24, .sl 24, .sl 24, .int .i64], false⟩),
  (380, ⟨1, false, [.arr (.emp (.rows 382))], some (.rows 382), 5, none, [], [], [], [.sl 380], false⟩),
  (381, ⟨5, true, [.int .i64 0, .arr (.emp (.ints 3 .i64)), .arr (.emp (.ints 3 .i64)), .arr (.emp (.ints 3 .i64)), .int .i64 0], none, 0, none, [0, 1, 2], [1, 1, 3], [3, 24, 135], [.int .i64, .sl 24, .sl 24, .sl 24, .int .i64], false⟩),
  (382, ⟨5, true, [.int .i64 0, .arr (.emp (.ints 3 .i64)), .arr (.emp (.ints 3 .i64)), .arr (.emp (.ints 3 .i64)), .int .i64 0], none, 0, none, [0, 1, 2], [1, 1, 3], [3, 24, 135], [.int .i64, .sl 24, .sl 24, .sl 24, .int .i64], false⟩),
  (385, ⟨1, false, [.int .u64 0], none, 0, none, [], [], [], [.int .u64], false⟩),
  (394, ⟨5, true, [.int .i64 0, .int .i64 0, .int .i64 0, .int .i64 0, .arr (.emp (.ints 3 .i64))], none, 0, none, [0, 1, 2, 3, 4], [1, 1, 1, 1, 1], [3, 3, 3, 3, 24], [.int .i64, .int .i64, .int .i64, .int .i64, .sl 24], false⟩),
  (395, ⟨5, true, [.int .i64 0, .int .i64 0, .int .i64 0, .int .i64 0, .arr (.emp (.ints 3 .i64))], none, 0, none, [0, 1, 2, 3, 4], [1, 1, 1, 1, 1], [3, 3, 3, 3, 24], [.int .i64, .int .i64, .int .i64, .int .i64, .sl 24], false⟩),
  (396, ⟨5, true, [.int .i64 0, .int .i64 0, .int .i64 0, .int .i64 0, .arr (.emp (.ints 3 .i64))], none, 0, none, [0, 1, 2, 3, 4], [1, 1, 1, 1, 1], [3, 3, 3, 3, 24], [.int .i64, .int .i64, .int .i64, .int .i64, .sl 24], false⟩),
  (398, ⟨3, true, [.int .i64 0, .int .i64 0, .int .i64 0], none, 0, none, [0, 1, 2], [1, 1, 1], [3, 3, 3], [.int .i64, .int .i64, .int .i64], true⟩),
  (399, ⟨3, true, [.int .i64 0, .int .i64 0, .int .i64 0], none, 0, none, [0, 1, 2], [1, 1, 1], [3, 3, 3], [.int .i64, .int .i64, .int .i64], true⟩),
  (401, ⟨3, true, [.int .i64 0, .int .i64 0, .int .i64 0], none, 0, none, [0, 1, 2], [1, 1, 1], [3, 3, 3], [.int .i64, .int .i64, .int .i64], true⟩),
  (405, ⟨3, true, [.int .i64 0, .int .i64 0, .arr (.emp (.ints 3 .i64))], none, 0, none, [0, 1, 2], [1, 1, 1], [3, 3, 24], [.int .i64, .int .i64, .sl 24], false⟩),
  (409, ⟨4, true, [.int .i64 0, .int .i64 0, .int .i64 0, .int .i64 0], none, 0, none, [0, 1, 2, 3], [1, 1, 1, 1], [3, 3, 3, 3], [.int .i64, .int .i64, .int .i64, .int .i64], true⟩),
  (423, ⟨1, false, [.int .u8 0], none, 0, none, [], [], [], [.int .u8], false⟩),
  (424, ⟨1, false, [.int .u8 0], none, 0, none, [], [], [], [.int .u8], false⟩),
  (427, ⟨1, false, [.int .i32 0], none, 0, none, [], [], [], [.int .i32], false⟩),
  (428, ⟨1, false, [.int .i32 0], none, 0, none, [], [], [], [.int .i32], false⟩)]
theorem mixed : Try.prog.follows .mixedOrders = true := by kernel_rfl
theorem cx_ok : PM.CxOk Try.prog cx := PM.cxChk_ok (by kernel_rfl)
theorem cx_read : PM.CxRead Try.prog cx := PM.cxRead_ok (by kernel_rfl)

theorem cx_at2 : PM.find cx 2 = some ⟨1, false, [.int .i64 0], none, 0, none, [], [], [], [.int .i64], false⟩ := by kernel_rfl
theorem cx_at3 : PM.find cx 3 = some ⟨1, false, [.int .i64 0], none, 0, none, [], [], [], [.int .i64], false⟩ := by kernel_rfl
theorem cx_at4 : PM.find cx 4 = some ⟨1, false, [.bool false], none, 0, none, [], [], [], [.bool], false⟩ := by kernel_rfl
theorem cx_at5 : PM.find cx 5 = some ⟨1, false, [.int .u8 0], none, 0, none, [], [], [], [.int .u8], false⟩ := by kernel_rfl
theorem cx_at6 : PM.find cx 6 = some ⟨1, false, [.int .u8 0], none, 0, none, [], [], [], [.int .u8], false⟩ := by kernel_rfl
theorem cx_at7 : PM.find cx 7 = some ⟨4, true, [.int .i64 0, .int .i64 0, .bool false, .int .u8 0], none, 0, none, [0, 1, 2, 3], [1, 1, 1, 1], [2, 3, 4, 6], [.int .i64, .int .i64, .bool, .int .u8], true⟩ := by kernel_rfl
theorem cx_at8 : PM.find cx 8 = some ⟨4, true, [.int .i64 0, .int .i64 0, .bool false, .int .u8 0], none, 0, none, [0, 1, 2, 3], [1, 1, 1, 1], [2, 3, 4, 6], [.int .i64, .int .i64, .bool, .int .u8], true⟩ := by kernel_rfl
theorem cx_at12 : PM.find cx 12 = some ⟨1, false, [.int .u64 0], none, 0, none, [], [], [], [.int .u64], false⟩ := by kernel_rfl
theorem cx_at21 : PM.find cx 21 = some ⟨1, false, [.int .i32 0], none, 0, none, [], [], [], [.int .i32], false⟩ := by kernel_rfl
theorem cx_at22 : PM.find cx 22 = some ⟨1, false, [.arr (.emp (.ints 5 .u8))], some (.ints 5 .u8), 1, none, [], [], [], [.sl 22], false⟩ := by kernel_rfl
theorem cx_at24 : PM.find cx 24 = some ⟨1, false, [.arr (.emp (.ints 3 .i64))], some (.ints 3 .i64), 1, none, [], [], [], [.sl 24], false⟩ := by kernel_rfl
theorem cx_at25 : PM.find cx 25 = some ⟨1, false, [.arr (.emp (.rows 33))], some (.rows 33), 3, none, [], [], [], [.sl 25], false⟩ := by kernel_rfl
theorem cx_at31 : PM.find cx 31 = some ⟨1, false, [.arr (.emp (.vecs 161 2))], some (.vecs 161 2), 2, none, [], [], [], [.sl 31], false⟩ := by kernel_rfl
theorem cx_at32 : PM.find cx 32 = some ⟨3, true, [.int .i64 0, .int .i64 0, .arr (.emp (.vecs 161 2))], none, 0, none, [0, 1, 2], [1, 1, 1], [3, 3, 31], [.int .i64, .int .i64, .sl 31], false⟩ := by kernel_rfl
theorem cx_at33 : PM.find cx 33 = some ⟨3, true, [.int .i64 0, .int .i64 0, .arr (.emp (.vecs 161 2))], none, 0, none, [0, 1, 2], [1, 1, 1], [3, 3, 31], [.int .i64, .int .i64, .sl 31], false⟩ := by kernel_rfl
theorem cx_at39 : PM.find cx 39 = some ⟨1, false, [.arr (.emp (.vecs 354 3))], some (.vecs 354 3), 3, none, [], [], [], [.sl 39], false⟩ := by kernel_rfl
theorem cx_at40 : PM.find cx 40 = some ⟨2, true, [.int .i64 0, .arr (.emp (.vecs 354 3))], none, 0, none, [0, 1], [1, 1], [3, 39], [.int .i64, .sl 39], false⟩ := by kernel_rfl
theorem cx_at41 : PM.find cx 41 = some ⟨2, true, [.int .i64 0, .arr (.emp (.vecs 354 3))], none, 0, none, [0, 1], [1, 1], [3, 39], [.int .i64, .sl 39], false⟩ := by kernel_rfl
theorem cx_at42 : PM.find cx 42 = some ⟨2, true, [.arr (.emp (.ints 3 .i64)), .int .i64 0], none, 0, none, [0, 1], [1, 1], [24, 3], [.sl 24, .int .i64], false⟩ := by kernel_rfl
theorem cx_at43 : PM.find cx 43 = some ⟨2, true, [.arr (.emp (.ints 3 .i64)), .int .i64 0], none, 0, none, [0, 1], [1, 1], [24, 3], [.sl 24, .int .i64], false⟩ := by kernel_rfl
theorem cx_at44 : PM.find cx 44 = some ⟨1, false, [.arr (.emp (.vecs 277 3))], some (.vecs 277 3), 3, none, [], [], [], [.sl 44], false⟩ := by kernel_rfl
theorem cx_at46 : PM.find cx 46 = some ⟨1, false, [.arr (.emp (.rows 195))], some (.rows 195), 3, none, [], [], [], [.sl 46], false⟩ := by kernel_rfl
theorem cx_at51 : PM.find cx 51 = some ⟨1, false, [.arr (.emp (.vecs 287 3))], some (.vecs 287 3), 3, none, [], [], [], [.sl 51], false⟩ := by kernel_rfl
theorem cx_at52 : PM.find cx 52 = some ⟨2, true, [.int .i64 0, .arr (.emp (.vecs 287 3))], none, 0, none, [0, 1], [1, 1], [3, 51], [.int .i64, .sl 51], false⟩ := by kernel_rfl
theorem cx_at53 : PM.find cx 53 = some ⟨2, true, [.int .i64 0, .arr (.emp (.vecs 287 3))], none, 0, none, [0, 1], [1, 1], [3, 51], [.int .i64, .sl 51], false⟩ := by kernel_rfl
theorem cx_at54 : PM.find cx 54 = some ⟨2, true, [.arr (.emp (.ints 3 .i64)), .int .i64 0], none, 0, none, [0, 1], [1, 1], [24, 3], [.sl 24, .int .i64], false⟩ := by kernel_rfl
theorem cx_at55 : PM.find cx 55 = some ⟨1, false, [.arr (.emp (.vecs 275 3))], some (.vecs 275 3), 3, none, [], [], [], [.sl 55], false⟩ := by kernel_rfl
theorem cx_at62 : PM.find cx 62 = some ⟨1, false, [.arr (.emp (.rows 285))], some (.rows 285), 18, none, [], [], [], [.sl 62], false⟩ := by kernel_rfl
theorem cx_at63 : PM.find cx 63 = some ⟨4, true, [.int .i64 0, .arr (.emp (.vecs 354 3)), .arr (.emp (.rows 285)), .arr (.emp (.rows 195))], none, 0, none, [0, 2, 3], [2, 1, 1], [41, 62, 46], [.int .i64, .sl 39, .sl 62, .sl 46], false⟩ := by kernel_rfl
theorem cx_at64 : PM.find cx 64 = some ⟨4, true, [.int .i64 0, .arr (.emp (.vecs 354 3)), .arr (.emp (.rows 285)), .arr (.emp (.rows 195))], none, 0, none, [0, 2, 3], [2, 1, 1], [41, 62, 46], [.int .i64, .sl 39, .sl 62, .sl 46], false⟩ := by kernel_rfl
theorem cx_at68 : PM.find cx 68 = some ⟨1, false, [.arr (.emp (.rows 189))], some (.rows 189), 18, none, [], [], [], [.sl 68], false⟩ := by kernel_rfl
theorem cx_at69 : PM.find cx 69 = some ⟨4, true, [.int .i64 0, .arr (.emp (.vecs 287 3)), .arr (.emp (.rows 189)), .arr (.emp (.rows 33))], none, 0, none, [0, 2, 3], [2, 1, 1], [53, 68, 25], [.int .i64, .sl 51, .sl 68, .sl 25], false⟩ := by kernel_rfl
theorem cx_at70 : PM.find cx 70 = some ⟨4, true, [.int .i64 0, .arr (.emp (.vecs 287 3)), .arr (.emp (.rows 189)), .arr (.emp (.rows 33))], none, 0, none, [0, 2, 3], [2, 1, 1], [53, 68, 25], [.int .i64, .sl 51, .sl 68, .sl 25], false⟩ := by kernel_rfl
theorem cx_at78 : PM.find cx 78 = some ⟨1, false, [.arr (.emp (.rows 203))], some (.rows 203), 2, none, [], [], [], [.sl 78], false⟩ := by kernel_rfl
theorem cx_at81 : PM.find cx 81 = some ⟨1, false, [.arr (.emp (.rows 205))], some (.rows 205), 2, none, [], [], [], [.sl 81], false⟩ := by kernel_rfl
theorem cx_at90 : PM.find cx 90 = some ⟨1, false, [.arr (.emp (.vecs 297 2))], some (.vecs 297 2), 2, none, [], [], [], [.sl 90], false⟩ := by kernel_rfl
theorem cx_at91 : PM.find cx 91 = some ⟨1, false, [.arr (.emp (.vecs 299 3))], some (.vecs 299 3), 3, none, [], [], [], [.sl 91], false⟩ := by kernel_rfl
theorem cx_at92 : PM.find cx 92 = some ⟨1, false, [.arr (.emp (.rows 295))], some (.rows 295), 15, none, [], [], [], [.sl 92], false⟩ := by kernel_rfl
theorem cx_at93 : PM.find cx 93 = some ⟨10, true, [.int .i64 0, .int .i64 0, .int .i64 0, .bool false, .arr (.emp (.ints 3 .i64)), .arr (.emp (.vecs 297 2)), .arr (.emp (.vecs 299 3)), .arr (.emp (.ints 3 .i64)), .arr (.emp (.vecs 297 2)), .arr (.emp (.rows 295))], none, 0, none, [0, 1, 2, 3, 4, 5, 6, 7, 8, 9], [1, 1, 1, 1, 1, 1, 1, 1, 1, 1], [3, 3, 3, 4, 24, 90, 91, 24, 90, 92], [.int .i64, .int .i64, .int .i64, .bool, .sl 24, .sl 90, .sl 91, .sl 24, .sl 90, .sl 92], false⟩ := by kernel_rfl
theorem cx_at94 : PM.find cx 94 = some ⟨10, true, [.int .i64 0, .int .i64 0, .int .i64 0, .bool false, .arr (.emp (.ints 3 .i64)), .arr (.emp (.vecs 297 2)), .arr (.emp (.vecs 299 3)), .arr (.emp (.ints 3 .i64)), .arr (.emp (.vecs 297 2)), .arr (.emp (.rows 295))], none, 0, none, [0, 1, 2, 3, 4, 5, 6, 7, 8, 9], [1, 1, 1, 1, 1, 1, 1, 1, 1, 1], [3, 3, 3, 4, 24, 90, 91, 24, 90, 92], [.int .i64, .int .i64, .int .i64, .bool, .sl 24, .sl 90, .sl 91, .sl 24, .sl 90, .sl 92], false⟩ := by kernel_rfl
theorem cx_at97 : PM.find cx 97 = some ⟨1, false, [.arr (.emp (.vecs 225 3))], some (.vecs 225 3), 3, none, [], [], [], [.sl 97], false⟩ := by kernel_rfl
theorem cx_at98 : PM.find cx 98 = some ⟨1, false, [.arr (.emp (.rows 214))], some (.rows 214), 15, none, [], [], [], [.sl 98], false⟩ := by kernel_rfl
theorem cx_at99 : PM.find cx 99 = some ⟨10, true, [.int .i64 0, .int .i64 0, .int .i64 0, .bool false, .arr (.emp (.ints 3 .i64)), .arr (.emp (.vecs 161 2)), .arr (.emp (.vecs 225 3)), .arr (.emp (.ints 3 .i64)), .arr (.emp (.vecs 161 2)), .arr (.emp (.rows 214))], none, 0, none, [0, 1, 2, 3, 4, 5, 6, 7, 8, 9], [1, 1, 1, 1, 1, 1, 1, 1, 1, 1], [3, 3, 3, 4, 24, 31, 97, 24, 31, 98], [.int .i64, .int .i64, .int .i64, .bool, .sl 24, .sl 31, .sl 97, .sl 24, .sl 31, .sl 98], false⟩ := by kernel_rfl
theorem cx_at100 : PM.find cx 100 = some ⟨10, true, [.int .i64 0, .int .i64 0, .int .i64 0, .bool false, .arr (.emp (.ints 3 .i64)), .arr (.emp (.vecs 161 2)), .arr (.emp (.vecs 225 3)), .arr (.emp (.ints 3 .i64)), .arr (.emp (.vecs 161 2)), .arr (.emp (.rows 214))], none, 0, none, [0, 1, 2, 3, 4, 5, 6, 7, 8, 9], [1, 1, 1, 1, 1, 1, 1, 1, 1, 1], [3, 3, 3, 4, 24, 31, 97, 24, 31, 98], [.int .i64, .int .i64, .int .i64, .bool, .sl 24, .sl 31, .sl 97, .sl 24, .sl 31, .sl 98], false⟩ := by kernel_rfl
theorem cx_at112 : PM.find cx 112 = some ⟨1, false, [.arr (.emp (.rows 309))], some (.rows 309), 1, none, [], [], [], [.sl 112], false⟩ := by kernel_rfl
theorem cx_at113 : PM.find cx 113 = some ⟨5, true, [.arr (.emp (.ints 3 .i64)), .arr (.emp (.ints 3 .i64)), .arr (.emp (.vecs 297 2)), .arr (.emp (.rows 309)), .arr (.emp (.ints 3 .i64))], none, 0, none, [0, 1, 2, 3, 4], [1, 1, 1, 1, 1], [24, 24, 90, 112, 24], [.sl 24, .sl 24, .sl 90, .sl 112, .sl 24], false⟩ := by kernel_rfl
theorem cx_at114 : PM.find cx 114 = some ⟨5, true, [.arr (.emp (.ints 3 .i64)), .arr (.emp (.ints 3 .i64)), .arr (.emp (.vecs 297 2)), .arr (.emp (.rows 309)), .arr (.emp (.ints 3 .i64))], none, 0, none, [0, 1, 2, 3, 4], [1, 1, 1, 1, 1], [24, 24, 90, 112, 24], [.sl 24, .sl 24, .sl 90, .sl 112, .sl 24], false⟩ := by kernel_rfl
theorem cx_at117 : PM.find cx 117 = some ⟨1, false, [.arr (.emp (.rows 233))], some (.rows 233), 1, none, [], [], [], [.sl 117], false⟩ := by kernel_rfl
theorem cx_at118 : PM.find cx 118 = some ⟨5, true, [.arr (.emp (.ints 3 .i64)), .arr (.emp (.ints 3 .i64)), .arr (.emp (.vecs 161 2)), .arr (.emp (.rows 233)), .arr (.emp (.ints 3 .i64))], none, 0, none, [0, 1, 2, 3, 4], [1, 1, 1, 1, 1], [24, 24, 31, 117, 24], [.sl 24, .sl 24, .sl 31, .sl 117, .sl 24], false⟩ := by kernel_rfl
theorem cx_at119 : PM.find cx 119 = some ⟨5, true, [.arr (.emp (.ints 3 .i64)), .arr (.emp (.ints 3 .i64)), .arr (.emp (.vecs 161 2)), .arr (.emp (.rows 233)), .arr (.emp (.ints 3 .i64))], none, 0, none, [0, 1, 2, 3, 4], [1, 1, 1, 1, 1], [24, 24, 31, 117, 24], [.sl 24, .sl 24, .sl 31, .sl 117, .sl 24], false⟩ := by kernel_rfl
theorem cx_at127 : PM.find cx 127 = some ⟨3, true, [.arr (.emp (.ints 3 .i64)), .arr (.emp (.ints 3 .i64)), .int .i64 0], none, 0, none, [0, 1, 2], [1, 1, 1], [24, 24, 3], [.sl 24, .sl 24, .int .i64], false⟩ := by kernel_rfl
theorem cx_at128 : PM.find cx 128 = some ⟨3, true, [.arr (.emp (.ints 3 .i64)), .arr (.emp (.ints 3 .i64)), .int .i64 0], none, 0, none, [0, 1, 2], [1, 1, 1], [24, 24, 3], [.sl 24, .sl 24, .int .i64], false⟩ := by kernel_rfl
theorem cx_at129 : PM.find cx 129 = some ⟨1, false, [.arr (.emp (.rows 317))], some (.rows 317), 2, none, [], [], [], [.sl 129], false⟩ := by kernel_rfl
theorem cx_at130 : PM.find cx 130 = some ⟨1, false, [.arr (.emp (.vecs 322 3))], some (.vecs 322 3), 3, none, [], [], [], [.sl 130], false⟩ := by kernel_rfl
theorem cx_at131 : PM.find cx 131 = some ⟨5, true, [.arr (.emp (.ints 3 .i64)), .arr (.emp (.ints 3 .i64)), .int .i64 0, .arr (.emp (.rows 317)), .arr (.emp (.vecs 322 3))], none, 0, none, [0, 3, 4], [3, 1, 1], [128, 129, 130], [.sl 24, .sl 24, .int .i64, .sl 129, .sl 130], false⟩ := by kernel_rfl
theorem cx_at132 : PM.find cx 132 = some ⟨5, true, [.arr (.emp (.ints 3 .i64)), .arr (.emp (.ints 3 .i64)), .int .i64 0, .arr (.emp (.rows 317)), .arr (.emp (.vecs 322 3))], none, 0, none, [0, 3, 4], [3, 1, 1], [128, 129, 130], [.sl 24, .sl 24, .int .i64, .sl 129, .sl 130], false⟩ := by kernel_rfl
theorem cx_at135 : PM.find cx 135 = some ⟨3, true, [.arr (.emp (.ints 3 .i64)), .arr (.emp (.ints 3 .i64)), .int .i64 0], none, 0, none, [0, 1, 2], [1, 1, 1], [24, 24, 3], [.sl 24, .sl 24, .int .i64], false⟩ := by kernel_rfl
theorem cx_at136 : PM.find cx 136 = some ⟨1, false, [.arr (.emp (.rows 242))], some (.rows 242), 2, none, [], [], [], [.sl 136], false⟩ := by kernel_rfl
theorem cx_at137 : PM.find cx 137 = some ⟨1, false, [.arr (.emp (.vecs 320 3))], some (.vecs 320 3), 3, none, [], [], [], [.sl 137], false⟩ := by kernel_rfl
theorem cx_at138 : PM.find cx 138 = some ⟨5, true, [.arr (.emp (.ints 3 .i64)), .arr (.emp (.ints 3 .i64)), .int .i64 0, .arr (.emp (.rows 242)), .arr (.emp (.vecs 320 3))], none, 0, none, [0, 3, 4], [3, 1, 1], [135, 136, 137], [.sl 24, .sl 24, .int .i64, .sl 136, .sl 137], false⟩ := by kernel_rfl
theorem cx_at139 : PM.find cx 139 = some ⟨5, true, [.arr (.emp (.ints 3 .i64)), .arr (.emp (.ints 3 .i64)), .int .i64 0, .arr (.emp (.rows 242)), .arr (.emp (.vecs 320 3))], none, 0, none, [0, 3, 4], [3, 1, 1], [135, 136, 137], [.sl 24, .sl 24, .int .i64, .sl 136, .sl 137], false⟩ := by kernel_rfl
theorem cx_at160 : PM.find cx 160 = some ⟨2, true, [.int .i64 0, .int .i64 0], none, 0, none, [0, 1], [1, 1], [3, 3], [.int .i64, .int .i64], true⟩ := by kernel_rfl
theorem cx_at161 : PM.find cx 161 = some ⟨2, true, [.int .i64 0, .int .i64 0], none, 0, none, [0, 1], [1, 1], [3, 3], [.int .i64, .int .i64], true⟩ := by kernel_rfl
theorem cx_at168 : PM.find cx 168 = some ⟨1, false, [.arr (.emp (.rows 396))], some (.rows 396), 5, none, [], [], [], [.sl 168], false⟩ := by kernel_rfl
theorem cx_at169 : PM.find cx 169 = some ⟨1, false, [.arr (.emp (.vecs 399 3))], some (.vecs 399 3), 3, none, [], [], [], [.sl 169], false⟩ := by kernel_rfl
theorem cx_at170 : PM.find cx 170 = some ⟨4, true, [.int .i64 0, .int .i64 0, .int .i64 0, .int .i64 0], none, 0, none, [0, 1, 2, 3], [1, 1, 1, 1], [3, 3, 3, 3], [.int .i64, .int .i64, .int .i64, .int .i64], true⟩ := by kernel_rfl
theorem cx_at171 : PM.find cx 171 = some ⟨4, true, [.int .i64 0, .int .i64 0, .int .i64 0, .int .i64 0], none, 0, none, [0, 1, 2, 3], [1, 1, 1, 1], [3, 3, 3, 3], [.int .i64, .int .i64, .int .i64, .int .i64], true⟩ := by kernel_rfl
theorem cx_at172 : PM.find cx 172 = some ⟨7, true, [.int .i64 0, .int .i64 0, .int .i64 0, .int .i64 0, .int .i64 0, .arr (.emp (.vecs 161 2)), .arr (.emp (.ints 3 .i64))], none, 0, none, [0, 1, 2, 3, 4, 5, 6], [1, 1, 1, 1, 1, 1, 1], [3, 3, 3, 3, 3, 31, 24], [.int .i64, .int .i64, .int .i64, .int .i64, .int .i64, .sl 31, .sl 24], false⟩ := by kernel_rfl
theorem cx_at173 : PM.find cx 173 = some ⟨7, true, [.int .i64 0, .int .i64 0, .int .i64 0, .int .i64 0, .int .i64 0, .arr (.emp (.vecs 161 2)), .arr (.emp (.ints 3 .i64))], none, 0, none, [0, 1, 2, 3, 4, 5, 6], [1, 1, 1, 1, 1, 1, 1], [3, 3, 3, 3, 3, 31, 24], [.int .i64, .int .i64, .int .i64, .int .i64, .int .i64, .sl 31, .sl 24], false⟩ := by kernel_rfl
theorem cx_at174 : PM.find cx 174 = some ⟨40, true, [.int .i64 0, .int .i64 0, .int .i64 0, .int .i64 0, .int .i64 0, .int .i64 0, .int .i64 0, .int .i64 0, .int .i64 0, .int .i64 0, .int .i64 0, .bool false, .arr (.emp (.ints 3 .i64)), .arr (.emp (.vecs 161 2)), .arr (.emp (.vecs 161 2)), .arr (.emp (.rows 396)), .arr (.emp (.vecs 399 3)), .arr (.emp (.ints 3 .i64)), .bool false, .int .i64 0, .int .i64 0, .int .i64 0, .int .i64 0, .int .i64 0, .int .i64 0, .int .i64 0, .int .i64 0, .int .i64 0, .arr (.emp (.vecs 161 2)), .arr (.emp (.ints 3 .i64)), .int .i64 0, .int .i64 0, .int .i64 0, .bool false, .arr (.emp (.ints 3 .i64)), .arr (.emp (.vecs 161 2)), .arr (.emp (.vecs 225 3)), .arr (.emp (.ints 3 .i64)), .arr (.emp (.vecs 161 2)), .arr (.emp (.rows 214))], none, 0, none, [0, 1, 2, 3, 4, 5, 6, 7, 8, 9, 10, 11, 12, 13, 14, 15, 16, 17, 18, 19, 23, 30], [1, 1, 1, 1, 1, 1, 1, 1, 1, 1, 1, 1, 1, 1, 1, 1, 1, 1, 1, 4, 7, 10], [3, 3, 3, 3, 3, 3, 3, 3, 3, 3, 3, 4, 24, 31, 31, 168, 169, 24, 4, 171, 173, 100], [.int .i64, .int .i64, .int .i64, .int .i64, .int .i64, .int .i64, .int .i64, .int .i64, .int .i64, .int .i64, .int .i64, .bool, .sl 24, .sl 31, .sl 31, .sl 168, .sl 169, .sl 24, .bool, .int .i64, .int .i64, .int .i64, .int .i64, .int .i64, .int .i64, .int .i64, .int .i64, .int .i64, .sl 31, .sl 24, .int .i64, .int .i64, .int .i64, .bool, .sl 24, .sl 31, .sl 97, .sl 24, .sl 31, .sl 98], false⟩ := by kernel_rfl
theorem cx_at175 : PM.find cx 175 = some ⟨40, true, [.int .i64 0, .int .i64 0, .int .i64 0, .int .i64 0, .int .i64 0, .int .i64 0, .int .i64 0, .int .i64 0, .int .i64 0, .int .i64 0, .int .i64 0, .bool false, .arr (.emp (.ints 3 .i64)), .arr (.emp (.vecs 161 2)), .arr (.emp (.vecs 161 2)), .arr (.emp (.rows 396)), .arr (.emp (.vecs 399 3)), .arr (.emp (.ints 3 .i64)), .bool false, .int .i64 0, .int .i64 0, .int .i64 0, .int .i64 0, .int .i64 0, .int .i64 0, .int .i64 0, .int .i64 0, .int .i64 0, .arr (.emp (.vecs 161 2)), .arr (.emp (.ints 3 .i64)), .int .i64 0, .int .i64 0, .int .i64 0, .bool false, .arr (.emp (.ints 3 .i64)), .arr (.emp (.vecs 161 2)), .arr (.emp (.vecs 225 3)), .arr (.emp (.ints 3 .i64)), .arr (.emp (.vecs 161 2)), .arr (.emp (.rows 214))], none, 0, none, [0, 1, 2, 3, 4, 5, 6, 7, 8, 9, 10, 11, 12, 13, 14, 15, 16, 17, 18, 19, 23, 30], [1, 1, 1, 1, 1, 1, 1, 1, 1, 1, 1, 1, 1, 1, 1, 1, 1, 1, 1, 4, 7, 10], [3, 3, 3, 3, 3, 3, 3, 3, 3, 3, 3, 4, 24, 31, 31, 168, 169, 24, 4, 171, 173, 100], [.int .i64, .int .i64, .int .i64, .int .i64, .int .i64, .int .i64, .int .i64, .int .i64, .int .i64, .int .i64, .int .i64, .bool, .sl 24, .sl 31, .sl 31, .sl 168, .sl 169, .sl 24, .bool, .int .i64, .int .i64, .int .i64, .int .i64, .int .i64, .int .i64, .int .i64, .int .i64, .int .i64, .sl 31, .sl 24, .int .i64, .int .i64, .int .i64, .bool, .sl 24, .sl 31, .sl 97, .sl 24, .sl 31, .sl 98], false⟩ := by kernel_rfl
theorem cx_at188 : PM.find cx 188 = some ⟨18, true, [.int .i64 0, .int .i64 0, .int .i64 0, .int .i64 0, .int .i64 0, .arr (.emp (.vecs 161 2)), .bool false, .int .i64 0, .int .i64 0, .int .i64 0, .int .i64 0, .int .i64 0, .int .i64 0, .int .i64 0, .int .i64 0, .int .i64 0, .arr (.emp (.vecs 161 2)), .arr (.emp (.ints 3 .i64))], none, 0, none, [0, 1, 2, 3, 4, 5, 6, 7, 11], [1, 1, 1, 1, 1, 1, 1, 4, 7], [3, 3, 3, 3, 3, 31, 4, 171, 173], [.int .i64, .int .i64, .int .i64, .int .i64, .int .i64, .sl 31, .bool, .int .i64, .int .i64, .int .i64, .int .i64, .int .i64, .int .i64, .int .i64, .int .i64, .int .i64, .sl 31, .sl 24], false⟩ := by kernel_rfl
theorem cx_at189 : PM.find cx 189 = some ⟨18, true, [.int .i64 0, .int .i64 0, .int .i64 0, .int .i64 0, .int .i64 0, .arr (.emp (.vecs 161 2)), .bool false, .int .i64 0, .int .i64 0, .int .i64 0, .int .i64 0, .int .i64 0, .int .i64 0, .int .i64 0, .int .i64 0, .int .i64 0, .arr (.emp (.vecs 161 2)), .arr (.emp (.ints 3 .i64))], none, 0, none, [0, 1, 2, 3, 4, 5, 6, 7, 11], [1, 1, 1, 1, 1, 1, 1, 4, 7], [3, 3, 3, 3, 3, 31, 4, 171, 173], [.int .i64, .int .i64, .int .i64, .int .i64, .int .i64, .sl 31, .bool, .int .i64, .int .i64, .int .i64, .int .i64, .int .i64, .int .i64, .int .i64, .int .i64, .int .i64, .sl 31, .sl 24], false⟩ := by kernel_rfl
theorem cx_at194 : PM.find cx 194 = some ⟨3, true, [.int .i64 0, .int .i64 0, .arr (.emp (.vecs 297 2))], none, 0, none, [0, 1, 2], [1, 1, 1], [3, 3, 90], [.int .i64, .int .i64, .sl 90], false⟩ := by kernel_rfl
theorem cx_at195 : PM.find cx 195 = some ⟨3, true, [.int .i64 0, .int .i64 0, .arr (.emp (.vecs 297 2))], none, 0, none, [0, 1, 2], [1, 1, 1], [3, 3, 90], [.int .i64, .int .i64, .sl 90], false⟩ := by kernel_rfl
theorem cx_at202 : PM.find cx 202 = some ⟨2, true, [.arr (.emp (.ints 3 .i64)), .arr (.emp (.vecs 297 2))], none, 0, none, [0, 1], [1, 1], [24, 90], [.sl 24, .sl 90], false⟩ := by kernel_rfl
theorem cx_at203 : PM.find cx 203 = some ⟨2, true, [.arr (.emp (.ints 3 .i64)), .arr (.emp (.vecs 297 2))], none, 0, none, [0, 1], [1, 1], [24, 90], [.sl 24, .sl 90], false⟩ := by kernel_rfl
theorem cx_at204 : PM.find cx 204 = some ⟨2, true, [.arr (.emp (.ints 3 .i64)), .arr (.emp (.vecs 161 2))], none, 0, none, [0, 1], [1, 1], [24, 31], [.sl 24, .sl 31], false⟩ := by kernel_rfl
theorem cx_at205 : PM.find cx 205 = some ⟨2, true, [.arr (.emp (.ints 3 .i64)), .arr (.emp (.vecs 161 2))], none, 0, none, [0, 1], [1, 1], [24, 31], [.sl 24, .sl 31], false⟩ := by kernel_rfl
theorem cx_at212 : PM.find cx 212 = some ⟨1, false, [.arr (.emp (.rows 368))], some (.rows 368), 3, none, [], [], [], [.sl 212], false⟩ := by kernel_rfl
theorem cx_at213 : PM.find cx 213 = some ⟨15, true, [.int .i64 0, .int .i64 0, .int .i64 0, .int .i64 0, .int .i64 0, .int .i64 0, .arr (.emp (.ints 3 .i64)), .arr (.emp (.vecs 225 3)), .arr (.emp (.vecs 161 2)), .arr (.emp (.rows 368)), .bool false, .int .i64 0, .int .i64 0, .int .i64 0, .int .i64 0], none, 0, none, [0, 1, 2, 3, 4, 5, 6, 7, 8, 9, 10, 11], [1, 1, 1, 1, 1, 1, 1, 1, 1, 1, 1, 4], [3, 3, 3, 3, 3, 3, 24, 97, 31, 212, 4, 171], [.int .i64, .int .i64, .int .i64, .int .i64, .int .i64, .int .i64, .sl 24, .sl 97, .sl 31, .sl 212, .bool, .int .i64, .int .i64, .int .i64, .int .i64], false⟩ := by kernel_rfl
theorem cx_at214 : PM.find cx 214 = some ⟨15, true, [.int .i64 0, .int .i64 0, .int .i64 0, .int .i64 0, .int .i64 0, .int .i64 0, .arr (.emp (.ints 3 .i64)), .arr (.emp (.vecs 225 3)), .arr (.emp (.vecs 161 2)), .arr (.emp (.rows 368)), .bool false, .int .i64 0, .int .i64 0, .int .i64 0, .int .i64 0], none, 0, none, [0, 1, 2, 3, 4, 5, 6, 7, 8, 9, 10, 11], [1, 1, 1, 1, 1, 1, 1, 1, 1, 1, 1, 4], [3, 3, 3, 3, 3, 3, 24, 97, 31, 212, 4, 171], [.int .i64, .int .i64, .int .i64, .int .i64, .int .i64, .int .i64, .sl 24, .sl 97, .sl 31, .sl 212, .bool, .int .i64, .int .i64, .int .i64, .int .i64], false⟩ := by kernel_rfl
theorem cx_at224 : PM.find cx 224 = some ⟨3, true, [.int .i64 0, .int .i64 0, .int .i64 0], none, 0, none, [0, 1, 2], [1, 1, 1], [3, 3, 3], [.int .i64, .int .i64, .int .i64], true⟩ := by kernel_rfl
theorem cx_at225 : PM.find cx 225 = some ⟨3, true, [.int .i64 0, .int .i64 0, .int .i64 0], none, 0, none, [0, 1, 2], [1, 1, 1], [3, 3, 3], [.int .i64, .int .i64, .int .i64], true⟩ := by kernel_rfl
theorem cx_at231 : PM.find cx 231 = some ⟨1, false, [.arr (.emp (.vecs 312 4))], some (.vecs 312 4), 4, none, [], [], [], [.sl 231], false⟩ := by kernel_rfl
theorem cx_at232 : PM.find cx 232 = some ⟨1, true, [.arr (.emp (.vecs 312 4))], none, 0, none, [0], [1], [231], [.sl 231], false⟩ := by kernel_rfl
theorem cx_at233 : PM.find cx 233 = some ⟨1, true, [.arr (.emp (.vecs 312 4))], none, 0, none, [0], [1], [231], [.sl 231], false⟩ := by kernel_rfl
theorem cx_at241 : PM.find cx 241 = some ⟨2, true, [.arr (.emp (.vecs 312 4)), .arr (.emp (.rows 233))], none, 0, none, [0, 1], [1, 1], [231, 117], [.sl 231, .sl 117], false⟩ := by kernel_rfl
theorem cx_at242 : PM.find cx 242 = some ⟨2, true, [.arr (.emp (.vecs 312 4)), .arr (.emp (.rows 233))], none, 0, none, [0, 1], [1, 1], [231, 117], [.sl 231, .sl 117], false⟩ := by kernel_rfl
theorem cx_at256 : PM.find cx 256 = some ⟨3, true, [.arr (.emp (.ints 5 .u8)), .int .i64 0, .int .i64 0], none, 0, none, [0, 1, 2], [1, 1, 1], [22, 3, 3], [.sl 22, .int .i64, .int .i64], false⟩ := by kernel_rfl
theorem cx_at257 : PM.find cx 257 = some ⟨3, true, [.arr (.emp (.ints 5 .u8)), .int .i64 0, .int .i64 0], none, 0, none, [0, 1, 2], [1, 1, 1], [22, 3, 3], [.sl 22, .int .i64, .int .i64], false⟩ := by kernel_rfl
theorem cx_at262 : PM.find cx 262 = some ⟨1, false, [.int .u64 0], none, 0, none, [], [], [], [.int .u64], false⟩ := by kernel_rfl
theorem cx_at266 : PM.find cx 266 = some ⟨1, false, [.arr (.emp (.rows 395))], some (.rows 395), 5, none, [], [], [], [.sl 266], false⟩ := by kernel_rfl
theorem cx_at267 : PM.find cx 267 = some ⟨1, false, [.arr (.emp (.vecs 401 3))], some (.vecs 401 3), 3, none, [], [], [], [.sl 267], false⟩ := by kernel_rfl
theorem cx_at268 : PM.find cx 268 = some ⟨4, true, [.int .i64 0, .int .i64 0, .int .i64 0, .int .i64 0], none, 0, none, [0, 1, 2, 3], [1, 1, 1, 1], [3, 3, 3, 3], [.int .i64, .int .i64, .int .i64, .int .i64], true⟩ := by kernel_rfl
theorem cx_at269 : PM.find cx 269 = some ⟨7, true, [.int .i64 0, .int .i64 0, .int .i64 0, .int .i64 0, .int .i64 0, .arr (.emp (.vecs 297 2)), .arr (.emp (.ints 3 .i64))], none, 0, none, [0, 1, 2, 3, 4, 5, 6], [1, 1, 1, 1, 1, 1, 1], [3, 3, 3, 3, 3, 90, 24], [.int .i64, .int .i64, .int .i64, .int .i64, .int .i64, .sl 90, .sl 24], false⟩ := by kernel_rfl
theorem cx_at270 : PM.find cx 270 = some ⟨7, true, [.int .i64 0, .int .i64 0, .int .i64 0, .int .i64 0, .int .i64 0, .arr (.emp (.vecs 297 2)), .arr (.emp (.ints 3 .i64))], none, 0, none, [0, 1, 2, 3, 4, 5, 6], [1, 1, 1, 1, 1, 1, 1], [3, 3, 3, 3, 3, 90, 24], [.int .i64, .int .i64, .int .i64, .int .i64, .int .i64, .sl 90, .sl 24], false⟩ := by kernel_rfl
theorem cx_at271 : PM.find cx 271 = some ⟨40, true, [.int .i64 0, .int .i64 0, .int .i64 0, .int .i64 0, .int .i64 0, .int .i64 0, .int .i64 0, .int .i64 0, .int .i64 0, .int .i64 0, .int .i64 0, .bool false, .arr (.emp (.ints 3 .i64)), .arr (.emp (.vecs 297 2)), .arr (.emp (.vecs 297 2)), .arr (.emp (.rows 395)), .arr (.emp (.vecs 401 3)), .arr (.emp (.ints 3 .i64)), .bool false, .int .i64 0, .int .i64 0, .int .i64 0, .int .i64 0, .int .i64 0, .int .i64 0, .int .i64 0, .int .i64 0, .int .i64 0, .arr (.emp (.vecs 297 2)), .arr (.emp (.ints 3 .i64)), .int .i64 0, .int .i64 0, .int .i64 0, .bool false, .arr (.emp (.ints 3 .i64)), .arr (.emp (.vecs 297 2)), .arr (.emp (.vecs 299 3)), .arr (.emp (.ints 3 .i64)), .arr (.emp (.vecs 297 2)), .arr (.emp (.rows 295))], none, 0, none, [0, 1, 2, 3, 4, 5, 6, 7, 8, 9, 10, 11, 12, 13, 14, 15, 16, 17, 18, 19, 23, 30], [1, 1, 1, 1, 1, 1, 1, 1, 1, 1, 1, 1, 1, 1, 1, 1, 1, 1, 1, 4, 7, 10], [3, 3, 3, 3, 3, 3, 3, 3, 3, 3, 3, 4, 24, 90, 90, 266, 267, 24, 4, 268, 270, 94], [.int .i64, .int .i64, .int .i64, .int .i64, .int .i64, .int .i64, .int .i64, .int .i64, .int .i64, .int .i64, .int .i64, .bool, .sl 24, .sl 90, .sl 90, .sl 266, .sl 267, .sl 24, .bool, .int .i64, .int .i64, .int .i64, .int .i64, .int .i64, .int .i64, .int .i64, .int .i64, .int .i64, .sl 90, .sl 24, .int .i64, .int .i64, .int .i64, .bool, .sl 24, .sl 90, .sl 91, .sl 24, .sl 90, .sl 92], false⟩ := by kernel_rfl
theorem cx_at272 : PM.find cx 272 = some ⟨40, true, [.int .i64 0, .int .i64 0, .int .i64 0, .int .i64 0, .int .i64 0, .int .i64 0, .int .i64 0, .int .i64 0, .int .i64 0, .int .i64 0, .int .i64 0, .bool false, .arr (.emp (.ints 3 .i64)), .arr (.emp (.vecs 297 2)), .arr (.emp (.vecs 297 2)), .arr (.emp (.rows 395)), .arr (.emp (.vecs 401 3)), .arr (.emp (.ints 3 .i64)), .bool false, .int .i64 0, .int .i64 0, .int .i64 0, .int .i64 0, .int .i64 0, .int .i64 0, .int .i64 0, .int .i64 0, .int .i64 0, .arr (.emp (.vecs 297 2)), .arr (.emp (.ints 3 .i64)), .int .i64 0, .int .i64 0, .int .i64 0, .bool false, .arr (.emp (.ints 3 .i64)), .arr (.emp (.vecs 297 2)), .arr (.emp (.vecs 299 3)), .arr (.emp (.ints 3 .i64)), .arr (.emp (.vecs 297 2)), .arr (.emp (.rows 295))], none, 0, none, [0, 1, 2, 3, 4, 5, 6, 7, 8, 9, 10, 11, 12, 13, 14, 15, 16, 17, 18, 19, 23, 30], [1, 1, 1, 1, 1, 1, 1, 1, 1, 1, 1, 1, 1, 1, 1, 1, 1, 1, 1, 4, 7, 10], [3, 3, 3, 3, 3, 3, 3, 3, 3, 3, 3, 4, 24, 90, 90, 266, 267, 24, 4, 268, 270, 94], [.int .i64, .int .i64, .int .i64, .int .i64, .int .i64, .int .i64, .int .i64, .int .i64, .int .i64, .int .i64, .int .i64, .bool, .sl 24, .sl 90, .sl 90, .sl 266, .sl 267, .sl 24, .bool, .int .i64, .int .i64, .int .i64, .int .i64, .int .i64, .int .i64, .int .i64, .int .i64, .int .i64, .sl 90, .sl 24, .int .i64, .int .i64, .int .i64, .bool, .sl 24, .sl 90, .sl 91, .sl 24, .sl 90, .sl 92], false⟩ := by kernel_rfl
theorem cx_at274 : PM.find cx 274 = some ⟨3, true, [.int .i64 0, .int .i64 0, .int .i64 0], none, 0, none, [0, 1, 2], [1, 1, 1], [3, 3, 3], [.int .i64, .int .i64, .int .i64], true⟩ := by kernel_rfl
theorem cx_at275 : PM.find cx 275 = some ⟨3, true, [.int .i64 0, .int .i64 0, .int .i64 0], none, 0, none, [0, 1, 2], [1, 1, 1], [3, 3, 3], [.int .i64, .int .i64, .int .i64], true⟩ := by kernel_rfl
theorem cx_at277 : PM.find cx 277 = some ⟨3, true, [.int .i64 0, .int .i64 0, .int .i64 0], none, 0, none, [0, 1, 2], [1, 1, 1], [3, 3, 3], [.int .i64, .int .i64, .int .i64], true⟩ := by kernel_rfl
theorem cx_at284 : PM.find cx 284 = some ⟨18, true, [.int .i64 0, .int .i64 0, .int .i64 0, .int .i64 0, .int .i64 0, .arr (.emp (.vecs 297 2)), .bool false, .int .i64 0, .int .i64 0, .int .i64 0, .int .i64 0, .int .i64 0, .int .i64 0, .int .i64 0, .int .i64 0, .int .i64 0, .arr (.emp (.vecs 297 2)), .arr (.emp (.ints 3 .i64))], none, 0, none, [0, 1, 2, 3, 4, 5, 6, 7, 11], [1, 1, 1, 1, 1, 1, 1, 4, 7], [3, 3, 3, 3, 3, 90, 4, 268, 270], [.int .i64, .int .i64, .int .i64, .int .i64, .int .i64, .sl 90, .bool, .int .i64, .int .i64, .int .i64, .int .i64, .int .i64, .int .i64, .int .i64, .int .i64, .int .i64, .sl 90, .sl 24], false⟩ := by kernel_rfl
theorem cx_at285 : PM.find cx 285 = some ⟨18, true, [.int .i64 0, .int .i64 0, .int .i64 0, .int .i64 0, .int .i64 0, .arr (.emp (.vecs 297 2)), .bool false, .int .i64 0, .int .i64 0, .int .i64 0, .int .i64 0, .int .i64 0, .int .i64 0, .int .i64 0, .int .i64 0, .int .i64 0, .arr (.emp (.vecs 297 2)), .arr (.emp (.ints 3 .i64))], none, 0, none, [0, 1, 2, 3, 4, 5, 6, 7, 11], [1, 1, 1, 1, 1, 1, 1, 4, 7], [3, 3, 3, 3, 3, 90, 4, 268, 270], [.int .i64, .int .i64, .int .i64, .int .i64, .int .i64, .sl 90, .bool, .int .i64, .int .i64, .int .i64, .int .i64, .int .i64, .int .i64, .int .i64, .int .i64, .int .i64, .sl 90, .sl 24], false⟩ := by kernel_rfl
theorem cx_at286 : PM.find cx 286 = some ⟨3, true, [.int .i64 0, .int .i64 0, .int .i64 0], none, 0, none, [0, 1, 2], [1, 1, 1], [3, 3, 3], [.int .i64, .int .i64, .int .i64], true⟩ := by kernel_rfl
theorem cx_at287 : PM.find cx 287 = some ⟨3, true, [.int .i64 0, .int .i64 0, .int .i64 0], none, 0, none, [0, 1, 2], [1, 1, 1], [3, 3, 3], [.int .i64, .int .i64, .int .i64], true⟩ := by kernel_rfl
theorem cx_at293 : PM.find cx 293 = some ⟨1, false, [.arr (.emp (.rows 405))], some (.rows 405), 3, none, [], [], [], [.sl 293], false⟩ := by kernel_rfl
theorem cx_at294 : PM.find cx 294 = some ⟨15, true, [.int .i64 0, .int .i64 0, .int .i64 0, .int .i64 0, .int .i64 0, .int .i64 0, .arr (.emp (.ints 3 .i64)), .arr (.emp (.vecs 299 3)), .arr (.emp (.vecs 297 2)), .arr (.emp (.rows 405)), .bool false, .int .i64 0, .int .i64 0, .int .i64 0, .int .i64 0], none, 0, none, [0, 1, 2, 3, 4, 5, 6, 7, 8, 9, 10, 11], [1, 1, 1, 1, 1, 1, 1, 1, 1, 1, 1, 4], [3, 3, 3, 3, 3, 3, 24, 91, 90, 293, 4, 268], [.int .i64, .int .i64, .int .i64, .int .i64, .int .i64, .int .i64, .sl 24, .sl 91, .sl 90, .sl 293, .bool, .int .i64, .int .i64, .int .i64, .int .i64], false⟩ := by kernel_rfl
theorem cx_at295 : PM.find cx 295 = some ⟨15, true, [.int .i64 0, .int .i64 0, .int .i64 0, .int .i64 0, .int .i64 0, .int .i64 0, .arr (.emp (.ints 3 .i64)), .arr (.emp (.vecs 299 3)), .arr (.emp (.vecs 297 2)), .arr (.emp (.rows 405)), .bool false, .int .i64 0, .int .i64 0, .int .i64 0, .int .i64 0], none, 0, none, [0, 1, 2, 3, 4, 5, 6, 7, 8, 9, 10, 11], [1, 1, 1, 1, 1, 1, 1, 1, 1, 1, 1, 4], [3, 3, 3, 3, 3, 3, 24, 91, 90, 293, 4, 268], [.int .i64, .int .i64, .int .i64, .int .i64, .int .i64, .int .i64, .sl 24, .sl 91, .sl 90, .sl 293, .bool, .int .i64, .int .i64, .int .i64, .int .i64], false⟩ := by kernel_rfl
theorem cx_at297 : PM.find cx 297 = some ⟨2, true, [.int .i64 0, .int .i64 0], none, 0, none, [0, 1], [1, 1], [3, 3], [.int .i64, .int .i64], true⟩ := by kernel_rfl
theorem cx_at299 : PM.find cx 299 = some ⟨3, true, [.int .i64 0, .int .i64 0, .int .i64 0], none, 0, none, [0, 1, 2], [1, 1, 1], [3, 3, 3], [.int .i64, .int .i64, .int .i64], true⟩ := by kernel_rfl
theorem cx_at307 : PM.find cx 307 = some ⟨1, false, [.arr (.emp (.vecs 409 4))], some (.vecs 409 4), 4, none, [], [], [], [.sl 307], false⟩ := by kernel_rfl
theorem cx_at308 : PM.find cx 308 = some ⟨1, true, [.arr (.emp (.vecs 409 4))], none, 0, none, [0], [1], [307], [.sl 307], false⟩ := by kernel_rfl
theorem cx_at309 : PM.find cx 309 = some ⟨1, true, [.arr (.emp (.vecs 409 4))], none, 0, none, [0], [1], [307], [.sl 307], false⟩ := by kernel_rfl
theorem cx_at311 : PM.find cx 311 = some ⟨4, true, [.int .i64 0, .int .i64 0, .int .i64 0, .int .i64 0], none, 0, none, [0, 1, 2, 3], [1, 1, 1, 1], [3, 3, 3, 3], [.int .i64, .int .i64, .int .i64, .int .i64], true⟩ := by kernel_rfl
theorem cx_at312 : PM.find cx 312 = some ⟨4, true, [.int .i64 0, .int .i64 0, .int .i64 0, .int .i64 0], none, 0, none, [0, 1, 2, 3], [1, 1, 1, 1], [3, 3, 3, 3], [.int .i64, .int .i64, .int .i64, .int .i64], true⟩ := by kernel_rfl
theorem cx_at316 : PM.find cx 316 = some ⟨2, true, [.arr (.emp (.vecs 409 4)), .arr (.emp (.rows 309))], none, 0, none, [0, 1], [1, 1], [307, 112], [.sl 307, .sl 112], false⟩ := by kernel_rfl
theorem cx_at317 : PM.find cx 317 = some ⟨2, true, [.arr (.emp (.vecs 409 4)), .arr (.emp (.rows 309))], none, 0, none, [0, 1], [1, 1], [307, 112], [.sl 307, .sl 112], false⟩ := by kernel_rfl
theorem cx_at319 : PM.find cx 319 = some ⟨3, true, [.int .i64 0, .int .i64 0, .int .i64 0], none, 0, none, [0, 1, 2], [1, 1, 1], [3, 3, 3], [.int .i64, .int .i64, .int .i64], true⟩ := by kernel_rfl
theorem cx_at320 : PM.find cx 320 = some ⟨3, true, [.int .i64 0, .int .i64 0, .int .i64 0], none, 0, none, [0, 1, 2], [1, 1, 1], [3, 3, 3], [.int .i64, .int .i64, .int .i64], true⟩ := by kernel_rfl
theorem cx_at322 : PM.find cx 322 = some ⟨3, true, [.int .i64 0, .int .i64 0, .int .i64 0], none, 0, none, [0, 1, 2], [1, 1, 1], [3, 3, 3], [.int .i64, .int .i64, .int .i64], true⟩ := by kernel_rfl
theorem cx_at326 : PM.find cx 326 = some ⟨1, false, [.arr (.emp (.bools 4))], some (.bools 4), 1, none, [], [], [], [.sl 326], false⟩ := by kernel_rfl
theorem cx_at327 : PM.find cx 327 = some ⟨5, true, [.int .i64 0, .arr (.emp (.ints 3 .i64)), .arr (.emp (.ints 3 .i64)), .arr (.emp (.ints 3 .i64)), .int .i64 0], none, 0, none, [0, 1, 2], [1, 1, 3], [3, 24, 135], [.int .i64, .sl 24, .sl 24, .sl 24, .int .i64], false⟩ := by kernel_rfl
theorem cx_at328 : PM.find cx 328 = some ⟨5, true, [.int .i64 0, .arr (.emp (.ints 3 .i64)), .arr (.emp (.ints 3 .i64)), .arr (.emp (.ints 3 .i64)), .int .i64 0], none, 0, none, [0, 1, 2], [1, 1, 3], [3, 24, 135], [.int .i64, .sl 24, .sl 24, .sl 24, .int .i64], false⟩ := by kernel_rfl
theorem cx_at334 : PM.find cx 334 = some ⟨1, false, [.int .i64 0], none, 0, none, [], [], [], [.int .i64], false⟩ := by kernel_rfl
theorem cx_at341 : PM.find cx 341 = some ⟨1, false, [.int .u32 0], none, 0, none, [], [], [], [.int .u32], false⟩ := by kernel_rfl
theorem cx_at343 : PM.find cx 343 = some ⟨1, false, [.int .u64 0], none, 0, none, [], [], [], [.int .u64], false⟩ := by kernel_rfl
theorem cx_at354 : PM.find cx 354 = some ⟨3, true, [.int .i64 0, .int .i64 0, .int .i64 0], none, 0, none, [0, 1, 2], [1, 1, 1], [3, 3, 3], [.int .i64, .int .i64, .int .i64], true⟩ := by kernel_rfl
theorem cx_at367 : PM.find cx 367 = some ⟨3, true, [.int .i64 0, .int .i64 0, .arr (.emp (.ints 3 .i64))], none, 0, none, [0, 1, 2], [1, 1, 1], [3, 3, 24], [.int .i64, .int .i64, .sl 24], false⟩ := by kernel_rfl
theorem cx_at368 : PM.find cx 368 = some ⟨3, true, [.int .i64 0, .int .i64 0, .arr (.emp (.ints 3 .i64))], none, 0, none, [0, 1, 2], [1, 1, 1], [3, 3, 24], [.int .i64, .int .i64, .sl 24], false⟩ := by kernel_rfl
theorem cx_at376 : PM.find cx 376 = some ⟨1, false, [.arr (.emp (.rows 378))], some (.rows 378), 5, none, [], [], [], [.sl 376], false⟩ := by kernel_rfl
theorem cx_at377 : PM.find cx 377 = some ⟨5, true, [.int .i64 0, .arr (.emp (.ints 3 .i64)), .arr (.emp (.ints 3 .i64)), .arr (.emp (.ints 3 .i64)), .int .i64 0], none, 0, none, [0, 1, 2], [1, 1, 3], [3, 24, 135], [.int .i64, .sl 24, .sl 24, .sl 24, .int .i64], false⟩ := by kernel_rfl
theorem cx_at378 : PM.find cx 378 = some ⟨5, true, [.int .i64 0, .arr (.emp (.ints 3 .i64)), .arr (.emp (.ints 3 .i64)), .arr (.emp (.ints 3 .i64)), .int .i64 0], none, 0, none, [0, 1, 2], [1, 1, 3], [3, 24, 135], [.int .i64, .sl 24, .sl 24, .sl 24, .int .i64], false⟩ := by kernel_rfl
theorem cx_at380 : PM.find cx 380 = some ⟨1, false, [.arr (.emp (.rows 382))], some (.rows 382), 5, none, [], [], [], [.sl 380], false⟩ := by kernel_rfl
theorem cx_at381 : PM.find cx 381 = some ⟨5, true, [.int .i64 0, .arr (.emp (.ints 3 .i64)), .arr (.emp (.ints 3 .i64)), .arr (.emp (.ints 3 .i64)), .int .i64 0], none, 0, none, [0, 1, 2], [1, 1, 3], [3, 24, 135], [.int .i64, .sl 24, .sl 24, .sl 24, .int .i64], false⟩ := by kernel_rfl
theorem cx_at382 : PM.find cx 382 = some ⟨5, true, [.int .i64 0, .arr (.emp (.ints 3 .i64)), .arr (.emp (.ints 3 .i64)), .arr (.emp (.ints 3 .i64)), .int .i64 0], none, 0, none, [0, 1, 2], [1, 1, 3], [3, 24, 135], [.int .i64, .sl 24, .sl 24, .sl 24, .int .i64], false⟩ := by kernel_rfl
theorem cx_at385 : PM.find cx 385 = some ⟨1, false, [.int .u64 0], none, 0, none, [], [], [], [.int .u64], false⟩ := by kernel_rfl
theorem cx_at394 : PM.find cx 394 = some ⟨5, true, [.int .i64 0, .int .i64 0, .int .i64 0, .int .i64 0, .arr (.emp (.ints 3 .i64))], none, 0, none, [0, 1, 2, 3, 4], [1, 1, 1, 1, 1], [3, 3, 3, 3, 24], [.int .i64, .int .i64, .int .i64, .int .i64, .sl 24], false⟩ := by kernel_rfl
theorem cx_at395 : PM.find cx 395 = some ⟨5, true, [.int .i64 0, .int .i64 0, .int .i64 0, .int .i64 0, .arr (.emp (.ints 3 .i64))], none, 0, none, [0, 1, 2, 3, 4], [1, 1, 1, 1, 1], [3, 3, 3, 3, 24], [.int .i64, .int .i64, .int .i64, .int .i64, .sl 24], false⟩ := by kernel_rfl
theorem cx_at396 : PM.find cx 396 = some ⟨5, true, [.int .i64 0, .int .i64 0, .int .i64 0, .int .i64 0, .arr (.emp (.ints 3 .i64))], none, 0, none, [0, 1, 2, 3, 4], [1, 1, 1, 1, 1], [3, 3, 3, 3, 24], [.int .i64, .int .i64, .int .i64, .int .i64, .sl 24], false⟩ := by kernel_rfl
theorem cx_at398 : PM.find cx 398 = some ⟨3, true, [.int .i64 0, .int .i64 0, .int .i64 0], none, 0, none, [0, 1, 2], [1, 1, 1], [3, 3, 3], [.int .i64, .int .i64, .int .i64], true⟩ := by kernel_rfl
theorem cx_at399 : PM.find cx 399 = some ⟨3, true, [.int .i64 0, .int .i64 0, .int .i64 0], none, 0, none, [0, 1, 2], [1, 1, 1], [3, 3, 3], [.int .i64, .int .i64, .int .i64], true⟩ := by kernel_rfl
theorem cx_at401 : PM.find cx 401 = some ⟨3, true, [.int .i64 0, .int .i64 0, .int .i64 0], none, 0, none, [0, 1, 2], [1, 1, 1], [3, 3, 3], [.int .i64, .int .i64, .int .i64], true⟩ := by kernel_rfl
theorem cx_at405 : PM.find cx 405 = some ⟨3, true, [.int .i64 0, .int .i64 0, .arr (.emp (.ints 3 .i64))], none, 0, none, [0, 1, 2], [1, 1, 1], [3, 3, 24], [.int .i64, .int .i64, .sl 24], false⟩ := by kernel_rfl
theorem cx_at409 : PM.find cx 409 = some ⟨4, true, [.int .i64 0, .int .i64 0, .int .i64 0, .int .i64 0], none, 0, none, [0, 1, 2, 3], [1, 1, 1, 1], [3, 3, 3, 3], [.int .i64, .int .i64, .int .i64, .int .i64], true⟩ := by kernel_rfl
theorem cx_at423 : PM.find cx 423 = some ⟨1, false, [.int .u8 0], none, 0, none, [], [], [], [.int .u8], false⟩ := by kernel_rfl
theorem cx_at424 : PM.find cx 424 = some ⟨1, false, [.int .u8 0], none, 0, none, [], [], [], [.int .u8], false⟩ := by kernel_rfl
theorem cx_at427 : PM.find cx 427 = some ⟨1, false, [.int .i32 0], none, 0, none, [], [], [], [.int .i32], false⟩ := by kernel_rfl
theorem cx_at428 : PM.find cx 428 = some ⟨1, false, [.int .i32 0], none, 0, none, [], [], [], [.int .i32], false⟩ := by kernel_rfl

abbrev laws_szIntS_T := (List Int) → (Int) → ((Int) → PM.R) → PM.R
noncomputable def laws_szIntS_w (c : laws_szIntS_T) (ds : List PM.V) (k : PM.V → PM.R) : PM.R :=
  match ds with
  | [.arr (.ints 3 .i64 a), .int .i64 left] => c a left (fun r0 => k (.int .i64 r0))
  | _ => none
noncomputable def laws_szIntS_f (A : PM.Prims) (a : List Int) (left : Int) (k : (Int) → PM.R) : PM.R :=
  bif (A.lt (A.sub .i64 left (A.ilen a)) 0) then
    k (-1)
  else
    k (A.sub .i64 left (A.ilen a))
noncomputable def laws_szIntS (A : PM.Prims) : laws_szIntS_T := laws_szIntS_f A
noncomputable def laws_szIntS_L (A : PM.Prims) (n : Nat) : PM.Lam := fun cur σ K =>
  match cur, σ, K with
  | _, _, _ => none
noncomputable def laws_szIntS_E (A : PM.Prims) : PM.Env := ⟨[], [], [], [(0, [0, 1]), (1, [1]), (2, [1, 10]), (3, [4]), (4, [4])], laws_szIntS_L A A.fuel⟩
theorem laws_szIntS_ok (A : PM.Prims) (a : List Int) (left : Int) (k : PM.V → PM.R) : PM.pfun A cx [] (laws_szIntS_E A) Go.Proofs.Try.f146 [.arr (.ints 3 .i64 a), .int .i64 left] k = laws_szIntS_f A a left (fun r0 => k (.int .i64 r0)) := by kernel_rfl

theorem laws_szIntS_fn : PM.FnIs Try.prog 146 Try.f146 := .of Try.func146 (by kernel_rfl) (by kernel_rfl)
theorem laws_szIntS_g : PM.GOk Try.prog cx 146 ⟨[], laws_szIntS_w (laws_szIntS PM.std), none⟩ := by
  refine ⟨laws_szIntS_fn.enter, fun _ ds k r h => ?_, fun hm => absurd rfl hm, fun _ e => (by cases e)⟩
  change laws_szIntS_w (laws_szIntS PM.std) ds k = some r at h
  unfold laws_szIntS_w at h
  split at h
  · exact PM.pfun_ok (E := laws_szIntS_E PM.std) (L := fun n => laws_szIntS_L PM.std n) (N := PM.std.fuel) cx_ok .nil mixed .nil laws_szIntS_fn (by kernel_rfl) ⟨rfl, fun _ _ _ => rfl, fun n cur σ K r h => by cases h⟩
      ((laws_szIntS_ok PM.std _ _ k).trans h)
  · cases h

abbrev laws_szRowS_T := (List (List Int)) → (Int) → ((Int) → PM.R) → PM.R
noncomputable def laws_szRowS_w (c : laws_szRowS_T) (ds : List PM.V) (k : PM.V → PM.R) : PM.R :=
  match ds with
  | [.arr (.vecs 297 2 a), .int .i64 left] => c a left (fun r0 => k (.int .i64 r0))
  | _ => none
noncomputable def laws_szRowS_f (A : PM.Prims) (a : List (List Int)) (left : Int) (k : (Int) → PM.R) : PM.R :=
  bif (A.lt (A.sub .i64 left (A.vlen a)) 0) then
    k (-1)
  else
    k (A.sub .i64 left (A.vlen a))
noncomputable def laws_szRowS (A : PM.Prims) : laws_szRowS_T := laws_szRowS_f A
noncomputable def laws_szRowS_L (A : PM.Prims) (n : Nat) : PM.Lam := fun cur σ K =>
  match cur, σ, K with
  | _, _, _ => none
noncomputable def laws_szRowS_E (A : PM.Prims) : PM.Env := ⟨[], [], [], [(0, [0, 1]), (1, [1]), (2, [1, 10]), (3, [4]), (4, [4])], laws_szRowS_L A A.fuel⟩
theorem laws_szRowS_ok (A : PM.Prims) (a : List (List Int)) (left : Int) (k : PM.V → PM.R) : PM.pfun A cx [] (laws_szRowS_E A) Go.Proofs.Try.f147 [.arr (.vecs 297 2 a), .int .i64 left] k = laws_szRowS_f A a left (fun r0 => k (.int .i64 r0)) := by kernel_rfl

theorem laws_szRowS_fn : PM.FnIs Try.prog 147 Try.f147 := .of Try.func147 (by kernel_rfl) (by kernel_rfl)
theorem laws_szRowS_g : PM.GOk Try.prog cx 147 ⟨[], laws_szRowS_w (laws_szRowS PM.std), none⟩ := by
  refine ⟨laws_szRowS_fn.enter, fun _ ds k r h => ?_, fun hm => absurd rfl hm, fun _ e => (by cases e)⟩
  change laws_szRowS_w (laws_szRowS PM.std) ds k = some r at h
  unfold laws_szRowS_w at h
  split at h
  · exact PM.pfun_ok (E := laws_szRowS_E PM.std) (L := fun n => laws_szRowS_L PM.std n) (N := PM.std.fuel) cx_ok .nil mixed .nil laws_szRowS_fn (by kernel_rfl) ⟨rfl, fun _ _ _ => rfl, fun n cur σ K r h => by cases h⟩
      ((laws_szRowS_ok PM.std _ _ k).trans h)
  · cases h

abbrev laws_toIntS_T := (List Int) → ((List Int) → PM.R) → PM.R
noncomputable def laws_toIntS_w (c : laws_toIntS_T) (ds : List PM.V) (k : PM.V → PM.R) : PM.R :=
  match ds with
  | [.arr (.ints 3 .i64 a)] => c a (fun r0 => k (.arr (.ints 3 .i64 r0)))
  | _ => none
noncomputable def laws_toIntS_l0 (A : PM.Prims) : Nat → (List Int) → (Int) → (List Int) → ((List Int) → PM.R) → PM.R
  | 0, _, _, _, _ => none
  | n + 1, a1, i2, o03, kx0_0 =>
    bif (A.lt i2 (A.ilen a1)) then
      bif (A.inb i2 (A.ilen a1)) then
        bif (A.inb i2 (A.ilen o03)) then
          laws_toIntS_l0 A n a1 (A.add .i64 i2 1) (A.iset o03 i2 (A.iget a1 i2)) kx0_0
        else
          none
      else
        none
    else
      kx0_0 o03
noncomputable def laws_toIntS_f (A : PM.Prims) (a : List Int) (k : (List Int) → PM.R) : PM.R :=
  bif (A.mkOk (A.ilen a)) then
    bif (A.le (A.ilen a) (A.ilen a)) then
      bif (A.mkOk (A.ilen a)) then
        laws_toIntS_l0 A A.fuel a 0 (A.izero (A.ilen a)) (fun o045 =>
          k o045)
      else
        none
    else
      none
  else
    none
noncomputable def laws_toIntS (A : PM.Prims) : laws_toIntS_T := laws_toIntS_f A
noncomputable def laws_toIntS_L (A : PM.Prims) (n : Nat) : PM.Lam := fun cur σ K =>
  match cur, σ, K with
  | 0, ⟨[(0, .arr (.ints 3 .i64 a1)), (3, .sref 0), (4, .int .i64 i2)], [(0, .arr true (.ints 3 .i64 o03))]⟩, K => laws_toIntS_l0 A n a1 i2 o03 (fun o04 => K (.exit 0) ⟨[(3, .sref 0)], [(0, .arr true (.ints 3 .i64 o04))]⟩)
  | _, _, _ => none
noncomputable def laws_toIntS_E (A : PM.Prims) : PM.Env := ⟨[], [], [(0, [0, 3, 4], [2, 3])], [(0, [0]), (1, [0, 3]), (2, [0, 3, 4]), (3, [0, 3, 4, 11]), (4, [0, 3, 4]), (5, [0, 3, 4]), (6, [2])], laws_toIntS_L A A.fuel⟩
theorem laws_toIntS_l0_ok (A : PM.Prims) (n : Nat) (a1 : List Int) (i2 : Int) (o03 : List Int) (K : Go.Exit → PM.S → PM.R) : laws_toIntS_L A (n + 1) 0 ⟨[(0, .arr (.ints 3 .i64 a1)), (3, .sref 0), (4, .int .i64 i2)], [(0, .arr true (.ints 3 .i64 o03))]⟩ K = PM.roundF A cx (PM.runD A cx (laws_toIntS_E A).inl (laws_toIntS_E A).Γ 3) (laws_toIntS_E A) (laws_toIntS_L A n) 0 Go.Proofs.Try.f37 ⟨[(0, .arr (.ints 3 .i64 a1)), (3, .sref 0), (4, .int .i64 i2)], [(0, .arr true (.ints 3 .i64 o03))]⟩ K := by kernel_rfl
theorem laws_toIntS_ok (A : PM.Prims) (a : List Int) (k : PM.V → PM.R) : PM.pfun A cx [] (laws_toIntS_E A) Go.Proofs.Try.f37 [.arr (.ints 3 .i64 a)] k = laws_toIntS_f A a (fun r0 => k (.arr (.ints 3 .i64 r0))) := by kernel_rfl

theorem laws_toIntS_fn : PM.FnIs Try.prog 37 Try.f37 := .of Try.func37 (by kernel_rfl) (by kernel_rfl)
theorem laws_toIntS_g : PM.GOk Try.prog cx 37 ⟨[], laws_toIntS_w (laws_toIntS PM.std), none⟩ := by
  refine ⟨laws_toIntS_fn.enter, fun _ ds k r h => ?_, fun hm => absurd rfl hm, fun _ e => (by cases e)⟩
  change laws_toIntS_w (laws_toIntS PM.std) ds k = some r at h
  unfold laws_toIntS_w at h
  split at h
  · exact PM.pfun_ok (E := laws_toIntS_E PM.std) (L := fun n => laws_toIntS_L PM.std n) (N := PM.std.fuel) cx_ok .nil mixed .nil laws_toIntS_fn (by kernel_rfl) ⟨rfl, fun cur σ K => by
      dsimp only [laws_toIntS_L]
      split <;> rfl, fun n cur σ K r h => by
      dsimp only [laws_toIntS_L] at h
      split at h
      · exact (laws_toIntS_l0_ok PM.std n _ _ _ K).symm.trans h
      · cases h⟩
      ((laws_toIntS_ok PM.std _ k).trans h)
  · cases h

abbrev laws_toRow_T := (Int) → (Int) → ((Int) → (Int) → PM.R) → PM.R
noncomputable def laws_toRow_w (c : laws_toRow_T) (ds : List PM.V) (k : PM.V → PM.R) : PM.R :=
  match ds with
  | [.agg [.int .i64 a_Cell, .int .i64 a_Val]] => c a_Cell a_Val (fun r0_Cell r0_Val => k (.agg [.int .i64 r0_Cell, .int .i64 r0_Val]))
  | _ => none
noncomputable def laws_toRow_f (A : PM.Prims) (a_Cell : Int) (a_Val : Int) (k : (Int) → (Int) → PM.R) : PM.R :=
  k a_Cell a_Val
noncomputable def laws_toRow (A : PM.Prims) : laws_toRow_T := laws_toRow_f A
noncomputable def laws_toRow_L (A : PM.Prims) (n : Nat) : PM.Lam := fun cur σ K =>
  match cur, σ, K with
  | _, _, _ => none
noncomputable def laws_toRow_E (A : PM.Prims) : PM.Env := ⟨[], [], [], [(0, [1, 2]), (1, [1, 2, 3]), (2, [1, 2, 3]), (3, [2, 3]), (4, [2])], laws_toRow_L A A.fuel⟩
theorem laws_toRow_ok (A : PM.Prims) (a_Cell : Int) (a_Val : Int) (k : PM.V → PM.R) : PM.pfun A cx [] (laws_toRow_E A) Go.Proofs.Try.f214 [.agg [.int .i64 a_Cell, .int .i64 a_Val]] k = laws_toRow_f A a_Cell a_Val (fun r0_Cell r0_Val => k (.agg [.int .i64 r0_Cell, .int .i64 r0_Val])) := by kernel_rfl

theorem laws_toRow_fn : PM.FnIs Try.prog 214 Try.f214 := .of Try.func214 (by kernel_rfl) (by kernel_rfl)
theorem laws_toRow_g : PM.GOk Try.prog cx 214 ⟨[], laws_toRow_w (laws_toRow PM.std), none⟩ := by
  refine ⟨laws_toRow_fn.enter, fun _ ds k r h => ?_, fun hm => absurd rfl hm, fun _ e => (by cases e)⟩
  change laws_toRow_w (laws_toRow PM.std) ds k = some r at h
  unfold laws_toRow_w at h
  split at h
  · exact PM.pfun_ok (E := laws_toRow_E PM.std) (L := fun n => laws_toRow_L PM.std n) (N := PM.std.fuel) cx_ok .nil mixed .nil laws_toRow_fn (by kernel_rfl) ⟨rfl, fun _ _ _ => rfl, fun n cur σ K r h => by cases h⟩
      ((laws_toRow_ok PM.std _ _ k).trans h)
  · cases h

abbrev laws_toRowS_T := (List (List Int)) → ((List (List Int)) → PM.R) → PM.R
noncomputable def laws_toRowS_w (c : laws_toRowS_T) (ds : List PM.V) (k : PM.V → PM.R) : PM.R :=
  match ds with
  | [.arr (.vecs 297 2 a)] => c a (fun r0 => k (.arr (.vecs 161 2 r0)))
  | _ => none
noncomputable def laws_toRowS_l0 (A : PM.Prims) (c_214 : laws_toRow_T) : Nat → (List (List Int)) → (Int) → (List (List Int)) → ((List (List Int)) → PM.R) → PM.R
  | 0, _, _, _, _ => none
  | n + 1, a1, i2, o03, kx0_0 =>
    bif (A.lt i2 (A.vlen a1)) then
      bif (A.inb i2 (A.vlen a1)) then
        c_214 (A.vget a1 i2 0) (A.vget a1 i2 1) (fun r4 r5 =>
          bif (A.inb i2 (A.vlen o03)) then
            laws_toRowS_l0 A c_214 n a1 (A.add .i64 i2 1) (A.vput o03 i2 [r4, r5]) kx0_0
          else
            none)
      else
        none
    else
      kx0_0 o03
noncomputable def laws_toRowS_f (A : PM.Prims) (c_214 : laws_toRow_T) (a : List (List Int)) (k : (List (List Int)) → PM.R) : PM.R :=
  bif (A.mkOk (A.vlen a)) then
    bif (A.le (A.vlen a) (A.vlen a)) then
      bif (A.mkOk (A.vlen a)) then
        laws_toRowS_l0 A c_214 A.fuel a 0 (A.vzero 2 (A.vlen a)) (fun o067 =>
          k o067)
      else
        none
    else
      none
  else
    none
noncomputable def laws_toRowS (A : PM.Prims) : laws_toRowS_T := laws_toRowS_f A (laws_toRow A)
noncomputable def laws_toRowS_L (A : PM.Prims) (c_214 : laws_toRow_T) (n : Nat) : PM.Lam := fun cur σ K =>
  match cur, σ, K with
  | 0, ⟨[(0, .arr (.vecs 297 2 a1)), (3, .sref 0), (4, .int .i64 i2)], [(0, .arr true (.vecs 161 2 o03))]⟩, K => laws_toRowS_l0 A c_214 n a1 i2 o03 (fun o06 => K (.exit 0) ⟨[(3, .sref 0)], [(0, .arr true (.vecs 161 2 o06))]⟩)
  | _, _, _ => none
noncomputable def laws_toRowS_E (A : PM.Prims) (c_214 : laws_toRow_T) : PM.Env := ⟨[(214, ⟨[], laws_toRow_w c_214, none⟩)], [], [(0, [0, 3, 4], [2, 3])], [(0, [0]), (1, [0, 3]), (2, [0, 3, 4]), (3, [0, 3, 4, 11]), (4, [0, 3, 4]), (5, [0, 3, 4]), (6, [2])], laws_toRowS_L A c_214 A.fuel⟩
theorem laws_toRowS_l0_ok (A : PM.Prims) (c_214 : laws_toRow_T) (n : Nat) (a1 : List (List Int)) (i2 : Int) (o03 : List (List Int)) (K : Go.Exit → PM.S → PM.R) : laws_toRowS_L A c_214 (n + 1) 0 ⟨[(0, .arr (.vecs 297 2 a1)), (3, .sref 0), (4, .int .i64 i2)], [(0, .arr true (.vecs 161 2 o03))]⟩ K = PM.roundF A cx (PM.runD A cx (laws_toRowS_E A c_214).inl (laws_toRowS_E A c_214).Γ 3) (laws_toRowS_E A c_214) (laws_toRowS_L A c_214 n) 0 Go.Proofs.Try.f150 ⟨[(0, .arr (.vecs 297 2 a1)), (3, .sref 0), (4, .int .i64 i2)], [(0, .arr true (.vecs 161 2 o03))]⟩ K := by kernel_rfl
theorem laws_toRowS_ok (A : PM.Prims) (c_214 : laws_toRow_T) (a : List (List Int)) (k : PM.V → PM.R) : PM.pfun A cx [] (laws_toRowS_E A c_214) Go.Proofs.Try.f150 [.arr (.vecs 297 2 a)] k = laws_toRowS_f A c_214 a (fun r0 => k (.arr (.vecs 161 2 r0))) := by kernel_rfl

theorem laws_toRowS_fn : PM.FnIs Try.prog 150 Try.f150 := .of Try.func150 (by kernel_rfl) (by kernel_rfl)
theorem laws_toRowS_g : PM.GOk Try.prog cx 150 ⟨[], laws_toRowS_w (laws_toRowS PM.std), none⟩ := by
  refine ⟨laws_toRowS_fn.enter, fun _ ds k r h => ?_, fun hm => absurd rfl hm, fun _ e => (by cases e)⟩
  change laws_toRowS_w (laws_toRowS PM.std) ds k = some r at h
  unfold laws_toRowS_w at h
  split at h
  · exact PM.pfun_ok (E := laws_toRowS_E PM.std (laws_toRow PM.std)) (L := fun n => laws_toRowS_L PM.std (laws_toRow PM.std) n) (N := PM.std.fuel) cx_ok (.cons laws_toRow_g .nil) mixed .nil laws_toRowS_fn (by kernel_rfl) ⟨rfl, fun cur σ K => by
      dsimp only [laws_toRowS_L]
      split <;> rfl, fun n cur σ K r h => by
      dsimp only [laws_toRowS_L] at h
      split at h
      · exact (laws_toRowS_l0_ok PM.std (laws_toRow PM.std) n _ _ _ K).symm.trans h
      · cases h⟩
      ((laws_toRowS_ok PM.std (laws_toRow PM.std) _ k).trans h)
  · cases h

abbrev laws_eqIntS_T := (List Int) → (List Int) → ((Bool) → PM.R) → PM.R
noncomputable def laws_eqIntS_w (c : laws_eqIntS_T) (ds : List PM.V) (k : PM.V → PM.R) : PM.R :=
  match ds with
  | [.arr (.ints 3 .i64 a), .arr (.ints 3 .i64 b)] => c a b (fun r0 => k (.bool r0))
  | _ => none
noncomputable def laws_eqIntS_l0 (A : PM.Prims) : Nat → (List Int) → (List Int) → (Int) → ((Bool) → PM.R) → (Unit → PM.R) → PM.R
  | 0, _, _, _, _, _ => none
  | n + 1, a1, b2, i3, kret_0, kx0_0 =>
    bif (A.lt i3 (A.ilen a1)) then
      bif (A.inb i3 (A.ilen a1)) then
        bif (A.inb i3 (A.ilen b2)) then
          bif (A.not (A.eq (A.iget a1 i3) (A.iget b2 i3))) then
            kret_0 false
          else
            laws_eqIntS_l0 A n a1 b2 (A.add .i64 i3 1) kret_0 kx0_0
        else
          none
      else
        none
    else
      kx0_0 ()
noncomputable def laws_eqIntS_f (A : PM.Prims) (a : List Int) (b : List Int) (k : (Bool) → PM.R) : PM.R :=
  bif (A.not (A.eq (A.ilen a) (A.ilen b))) then
    k false
  else
    laws_eqIntS_l0 A A.fuel a b 0 (fun t445 =>
      k t445) (fun _ =>
      k true)
noncomputable def laws_eqIntS (A : PM.Prims) : laws_eqIntS_T := laws_eqIntS_f A
noncomputable def laws_eqIntS_L (A : PM.Prims) (n : Nat) : PM.Lam := fun cur σ K =>
  match cur, σ, K with
  | 0, ⟨[(0, .arr (.ints 3 .i64 a1)), (1, .arr (.ints 3 .i64 b2)), (5, .int .i64 i3)], []⟩, K => laws_eqIntS_l0 A n a1 b2 i3 (fun t44 => K .ret ⟨[(4, .bool t44)], []⟩) (fun _ => K (.exit 0) ⟨[], []⟩)
  | _, _, _ => none
noncomputable def laws_eqIntS_E (A : PM.Prims) : PM.Env := ⟨[], [], [(0, [0, 1, 5], [4])], [(0, [0, 1]), (1, [0, 1, 10]), (2, [4]), (3, [0, 1, 5]), (4, [0, 1, 5, 14]), (5, [0, 1, 5]), (6, [0, 1, 5, 25]), (7, [4]), (8, [4])], laws_eqIntS_L A A.fuel⟩
theorem laws_eqIntS_l0_ok (A : PM.Prims) (n : Nat) (a1 : List Int) (b2 : List Int) (i3 : Int) (K : Go.Exit → PM.S → PM.R) : laws_eqIntS_L A (n + 1) 0 ⟨[(0, .arr (.ints 3 .i64 a1)), (1, .arr (.ints 3 .i64 b2)), (5, .int .i64 i3)], []⟩ K = PM.roundF A cx (PM.runD A cx (laws_eqIntS_E A).inl (laws_eqIntS_E A).Γ 3) (laws_eqIntS_E A) (laws_eqIntS_L A n) 0 Go.Proofs.Try.f40 ⟨[(0, .arr (.ints 3 .i64 a1)), (1, .arr (.ints 3 .i64 b2)), (5, .int .i64 i3)], []⟩ K := by kernel_rfl
theorem laws_eqIntS_ok (A : PM.Prims) (a : List Int) (b : List Int) (k : PM.V → PM.R) : PM.pfun A cx [] (laws_eqIntS_E A) Go.Proofs.Try.f40 [.arr (.ints 3 .i64 a), .arr (.ints 3 .i64 b)] k = laws_eqIntS_f A a b (fun r0 => k (.bool r0)) := by kernel_rfl

theorem laws_eqIntS_fn : PM.FnIs Try.prog 40 Try.f40 := .of Try.func40 (by kernel_rfl) (by kernel_rfl)
theorem laws_eqIntS_g : PM.GOk Try.prog cx 40 ⟨[], laws_eqIntS_w (laws_eqIntS PM.std), none⟩ := by
  refine ⟨laws_eqIntS_fn.enter, fun _ ds k r h => ?_, fun hm => absurd rfl hm, fun _ e => (by cases e)⟩
  change laws_eqIntS_w (laws_eqIntS PM.std) ds k = some r at h
  unfold laws_eqIntS_w at h
  split at h
  · exact PM.pfun_ok (E := laws_eqIntS_E PM.std) (L := fun n => laws_eqIntS_L PM.std n) (N := PM.std.fuel) cx_ok .nil mixed .nil laws_eqIntS_fn (by kernel_rfl) ⟨rfl, fun cur σ K => by
      dsimp only [laws_eqIntS_L]
      split <;> rfl, fun n cur σ K r h => by
      dsimp only [laws_eqIntS_L] at h
      split at h
      · exact (laws_eqIntS_l0_ok PM.std n _ _ _ K).symm.trans h
      · cases h⟩
      ((laws_eqIntS_ok PM.std _ _ k).trans h)
  · cases h

abbrev laws_eqRow_T := (Int) → (Int) → (Int) → (Int) → ((Bool) → PM.R) → PM.R
noncomputable def laws_eqRow_w (c : laws_eqRow_T) (ds : List PM.V) (k : PM.V → PM.R) : PM.R :=
  match ds with
  | [.agg [.int .i64 a_Cell, .int .i64 a_Val], .agg [.int .i64 b_Cell, .int .i64 b_Val]] => c a_Cell a_Val b_Cell b_Val (fun r0 => k (.bool r0))
  | _ => none
noncomputable def laws_eqRow_f (A : PM.Prims) (a_Cell : Int) (a_Val : Int) (b_Cell : Int) (b_Val : Int) (k : (Bool) → PM.R) : PM.R :=
  bif (A.not (A.eq a_Cell b_Cell)) then
    k false
  else
    bif (A.not (A.eq a_Val b_Val)) then
      k false
    else
      k true
noncomputable def laws_eqRow (A : PM.Prims) : laws_eqRow_T := laws_eqRow_f A
noncomputable def laws_eqRow_L (A : PM.Prims) (n : Nat) : PM.Lam := fun cur σ K =>
  match cur, σ, K with
  | _, _, _ => none
noncomputable def laws_eqRow_E (A : PM.Prims) : PM.Env := ⟨[], [], [], [(0, [2, 3]), (1, [2, 3, 9]), (2, [4]), (3, [14]), (4, [4]), (5, [4])], laws_eqRow_L A A.fuel⟩
theorem laws_eqRow_ok (A : PM.Prims) (a_Cell : Int) (a_Val : Int) (b_Cell : Int) (b_Val : Int) (k : PM.V → PM.R) : PM.pfun A cx [] (laws_eqRow_E A) Go.Proofs.Try.f159 [.agg [.int .i64 a_Cell, .int .i64 a_Val], .agg [.int .i64 b_Cell, .int .i64 b_Val]] k = laws_eqRow_f A a_Cell a_Val b_Cell b_Val (fun r0 => k (.bool r0)) := by kernel_rfl

theorem laws_eqRow_fn : PM.FnIs Try.prog 159 Try.f159 := .of Try.func159 (by kernel_rfl) (by kernel_rfl)
theorem laws_eqRow_g : PM.GOk Try.prog cx 159 ⟨[], laws_eqRow_w (laws_eqRow PM.std), none⟩ := by
  refine ⟨laws_eqRow_fn.enter, fun _ ds k r h => ?_, fun hm => absurd rfl hm, fun _ e => (by cases e)⟩
  change laws_eqRow_w (laws_eqRow PM.std) ds k = some r at h
  unfold laws_eqRow_w at h
  split at h
  · exact PM.pfun_ok (E := laws_eqRow_E PM.std) (L := fun n => laws_eqRow_L PM.std n) (N := PM.std.fuel) cx_ok .nil mixed .nil laws_eqRow_fn (by kernel_rfl) ⟨rfl, fun _ _ _ => rfl, fun n cur σ K r h => by cases h⟩
      ((laws_eqRow_ok PM.std _ _ _ _ k).trans h)
  · cases h

abbrev laws_eqRowS_T := (List (List Int)) → (List (List Int)) → ((Bool) → PM.R) → PM.R
noncomputable def laws_eqRowS_w (c : laws_eqRowS_T) (ds : List PM.V) (k : PM.V → PM.R) : PM.R :=
  match ds with
  | [.arr (.vecs 161 2 a), .arr (.vecs 161 2 b)] => c a b (fun r0 => k (.bool r0))
  | _ => none
noncomputable def laws_eqRowS_l0 (A : PM.Prims) (c_159 : laws_eqRow_T) : Nat → (List (List Int)) → (List (List Int)) → (Int) → ((Bool) → PM.R) → (Unit → PM.R) → PM.R
  | 0, _, _, _, _, _ => none
  | n + 1, a1, b2, i3, kret_0, kx0_0 =>
    bif (A.lt i3 (A.vlen a1)) then
      bif (A.inb i3 (A.vlen a1)) then
        bif (A.inb i3 (A.vlen b2)) then
          c_159 (A.vget a1 i3 0) (A.vget a1 i3 1) (A.vget b2 i3 0) (A.vget b2 i3 1) (fun r4 =>
            bif (A.not r4) then
              kret_0 false
            else
              laws_eqRowS_l0 A c_159 n a1 b2 (A.add .i64 i3 1) kret_0 kx0_0)
        else
          none
      else
        none
    else
      kx0_0 ()
noncomputable def laws_eqRowS_f (A : PM.Prims) (c_159 : laws_eqRow_T) (a : List (List Int)) (b : List (List Int)) (k : (Bool) → PM.R) : PM.R :=
  bif (A.not (A.eq (A.vlen a) (A.vlen b))) then
    k false
  else
    laws_eqRowS_l0 A c_159 A.fuel a b 0 (fun t456 =>
      k t456) (fun _ =>
      k true)
noncomputable def laws_eqRowS (A : PM.Prims) : laws_eqRowS_T := laws_eqRowS_f A (laws_eqRow A)
noncomputable def laws_eqRowS_L (A : PM.Prims) (c_159 : laws_eqRow_T) (n : Nat) : PM.Lam := fun cur σ K =>
  match cur, σ, K with
  | 0, ⟨[(0, .arr (.vecs 161 2 a1)), (1, .arr (.vecs 161 2 b2)), (5, .int .i64 i3)], []⟩, K => laws_eqRowS_l0 A c_159 n a1 b2 i3 (fun t45 => K .ret ⟨[(4, .bool t45)], []⟩) (fun _ => K (.exit 0) ⟨[], []⟩)
  | _, _, _ => none
noncomputable def laws_eqRowS_E (A : PM.Prims) (c_159 : laws_eqRow_T) : PM.Env := ⟨[(159, ⟨[], laws_eqRow_w c_159, none⟩)], [], [(0, [0, 1, 5], [4])], [(0, [0, 1]), (1, [0, 1, 10]), (2, [4]), (3, [0, 1, 5]), (4, [0, 1, 5, 14]), (5, [0, 1, 5]), (6, [0, 1, 5, 26]), (7, [4]), (8, [4])], laws_eqRowS_L A c_159 A.fuel⟩
theorem laws_eqRowS_l0_ok (A : PM.Prims) (c_159 : laws_eqRow_T) (n : Nat) (a1 : List (List Int)) (b2 : List (List Int)) (i3 : Int) (K : Go.Exit → PM.S → PM.R) : laws_eqRowS_L A c_159 (n + 1) 0 ⟨[(0, .arr (.vecs 161 2 a1)), (1, .arr (.vecs 161 2 b2)), (5, .int .i64 i3)], []⟩ K = PM.roundF A cx (PM.runD A cx (laws_eqRowS_E A c_159).inl (laws_eqRowS_E A c_159).Γ 3) (laws_eqRowS_E A c_159) (laws_eqRowS_L A c_159 n) 0 Go.Proofs.Try.f66 ⟨[(0, .arr (.vecs 161 2 a1)), (1, .arr (.vecs 161 2 b2)), (5, .int .i64 i3)], []⟩ K := by kernel_rfl
theorem laws_eqRowS_ok (A : PM.Prims) (c_159 : laws_eqRow_T) (a : List (List Int)) (b : List (List Int)) (k : PM.V → PM.R) : PM.pfun A cx [] (laws_eqRowS_E A c_159) Go.Proofs.Try.f66 [.arr (.vecs 161 2 a), .arr (.vecs 161 2 b)] k = laws_eqRowS_f A c_159 a b (fun r0 => k (.bool r0)) := by kernel_rfl

theorem laws_eqRowS_fn : PM.FnIs Try.prog 66 Try.f66 := .of Try.func66 (by kernel_rfl) (by kernel_rfl)
theorem laws_eqRowS_g : PM.GOk Try.prog cx 66 ⟨[], laws_eqRowS_w (laws_eqRowS PM.std), none⟩ := by
  refine ⟨laws_eqRowS_fn.enter, fun _ ds k r h => ?_, fun hm => absurd rfl hm, fun _ e => (by cases e)⟩
  change laws_eqRowS_w (laws_eqRowS PM.std) ds k = some r at h
  unfold laws_eqRowS_w at h
  split at h
  · exact PM.pfun_ok (E := laws_eqRowS_E PM.std (laws_eqRow PM.std)) (L := fun n => laws_eqRowS_L PM.std (laws_eqRow PM.std) n) (N := PM.std.fuel) cx_ok (.cons laws_eqRow_g .nil) mixed .nil laws_eqRowS_fn (by kernel_rfl) ⟨rfl, fun cur σ K => by
      dsimp only [laws_eqRowS_L]
      split <;> rfl, fun n cur σ K r h => by
      dsimp only [laws_eqRowS_L] at h
      split at h
      · exact (laws_eqRowS_l0_ok PM.std (laws_eqRow PM.std) n _ _ _ K).symm.trans h
      · cases h⟩
      ((laws_eqRowS_ok PM.std (laws_eqRow PM.std) _ _ k).trans h)
  · cases h

abbrev laws_toProbe_T := (Int) → (Int) → (Int) → (Int) → ((Int) → (Int) → (Int) → (Int) → PM.R) → PM.R
noncomputable def laws_toProbe_w (c : laws_toProbe_T) (ds : List PM.V) (k : PM.V → PM.R) : PM.R :=
  match ds with
  | [.agg [.int .i64 a_Cell, .int .i64 a_Phase, .int .i64 a_Ver, .int .i64 a_Val]] => c a_Cell a_Phase a_Ver a_Val (fun r0_Cell r0_Phase r0_Ver r0_Val => k (.agg [.int .i64 r0_Cell, .int .i64 r0_Phase, .int .i64 r0_Ver, .int .i64 r0_Val]))
  | _ => none
noncomputable def laws_toProbe_f (A : PM.Prims) (a_Cell : Int) (a_Phase : Int) (a_Ver : Int) (a_Val : Int) (k : (Int) → (Int) → (Int) → (Int) → PM.R) : PM.R :=
  k a_Cell a_Phase a_Ver a_Val
noncomputable def laws_toProbe (A : PM.Prims) : laws_toProbe_T := laws_toProbe_f A
noncomputable def laws_toProbe_L (A : PM.Prims) (n : Nat) : PM.Lam := fun cur σ K =>
  match cur, σ, K with
  | _, _, _ => none
noncomputable def laws_toProbe_E (A : PM.Prims) : PM.Env := ⟨[], [], [], [(0, [1, 2]), (1, [1, 2, 3]), (2, [1, 2, 3]), (3, [1, 2, 3]), (4, [1, 2, 3]), (5, [2, 3]), (6, [2])], laws_toProbe_L A A.fuel⟩
theorem laws_toProbe_ok (A : PM.Prims) (a_Cell : Int) (a_Phase : Int) (a_Ver : Int) (a_Val : Int) (k : PM.V → PM.R) : PM.pfun A cx [] (laws_toProbe_E A) Go.Proofs.Try.f269 [.agg [.int .i64 a_Cell, .int .i64 a_Phase, .int .i64 a_Ver, .int .i64 a_Val]] k = laws_toProbe_f A a_Cell a_Phase a_Ver a_Val (fun r0_Cell r0_Phase r0_Ver r0_Val => k (.agg [.int .i64 r0_Cell, .int .i64 r0_Phase, .int .i64 r0_Ver, .int .i64 r0_Val])) := by kernel_rfl

theorem laws_toProbe_fn : PM.FnIs Try.prog 269 Try.f269 := .of Try.func269 (by kernel_rfl) (by kernel_rfl)
theorem laws_toProbe_g : PM.GOk Try.prog cx 269 ⟨[], laws_toProbe_w (laws_toProbe PM.std), none⟩ := by
  refine ⟨laws_toProbe_fn.enter, fun _ ds k r h => ?_, fun hm => absurd rfl hm, fun _ e => (by cases e)⟩
  change laws_toProbe_w (laws_toProbe PM.std) ds k = some r at h
  unfold laws_toProbe_w at h
  split at h
  · exact PM.pfun_ok (E := laws_toProbe_E PM.std) (L := fun n => laws_toProbe_L PM.std n) (N := PM.std.fuel) cx_ok .nil mixed .nil laws_toProbe_fn (by kernel_rfl) ⟨rfl, fun _ _ _ => rfl, fun n cur σ K r h => by cases h⟩
      ((laws_toProbe_ok PM.std _ _ _ _ k).trans h)
  · cases h

abbrev laws_eqProbe_T := (Int) → (Int) → (Int) → (Int) → (Int) → (Int) → (Int) → (Int) → ((Bool) → PM.R) → PM.R
noncomputable def laws_eqProbe_w (c : laws_eqProbe_T) (ds : List PM.V) (k : PM.V → PM.R) : PM.R :=
  match ds with
  | [.agg [.int .i64 a_Cell, .int .i64 a_Phase, .int .i64 a_Ver, .int .i64 a_Val], .agg [.int .i64 b_Cell, .int .i64 b_Phase, .int .i64 b_Ver, .int .i64 b_Val]] => c a_Cell a_Phase a_Ver a_Val b_Cell b_Phase b_Ver b_Val (fun r0 => k (.bool r0))
  | _ => none
noncomputable def laws_eqProbe_f (A : PM.Prims) (a_Cell : Int) (a_Phase : Int) (a_Ver : Int) (a_Val : Int) (b_Cell : Int) (b_Phase : Int) (b_Ver : Int) (b_Val : Int) (k : (Bool) → PM.R) : PM.R :=
  bif (A.not (A.eq a_Cell b_Cell)) then
    k false
  else
    bif (A.not (A.eq a_Phase b_Phase)) then
      k false
    else
      bif (A.not (A.eq a_Ver b_Ver)) then
        k false
      else
        bif (A.not (A.eq a_Val b_Val)) then
          k false
        else
          k true
noncomputable def laws_eqProbe (A : PM.Prims) : laws_eqProbe_T := laws_eqProbe_f A
noncomputable def laws_eqProbe_L (A : PM.Prims) (n : Nat) : PM.Lam := fun cur σ K =>
  match cur, σ, K with
  | _, _, _ => none
noncomputable def laws_eqProbe_E (A : PM.Prims) : PM.Env := ⟨[], [], [], [(0, [2, 3]), (1, [2, 3, 9]), (2, [4]), (3, [2, 3, 14]), (4, [4]), (5, [2, 3, 19]), (6, [4]), (7, [24]), (8, [4]), (9, [4])], laws_eqProbe_L A A.fuel⟩
theorem laws_eqProbe_ok (A : PM.Prims) (a_Cell : Int) (a_Phase : Int) (a_Ver : Int) (a_Val : Int) (b_Cell : Int) (b_Phase : Int) (b_Ver : Int) (b_Val : Int) (k : PM.V → PM.R) : PM.pfun A cx [] (laws_eqProbe_E A) Go.Proofs.Try.f274 [.agg [.int .i64 a_Cell, .int .i64 a_Phase, .int .i64 a_Ver, .int .i64 a_Val], .agg [.int .i64 b_Cell, .int .i64 b_Phase, .int .i64 b_Ver, .int .i64 b_Val]] k = laws_eqProbe_f A a_Cell a_Phase a_Ver a_Val b_Cell b_Phase b_Ver b_Val (fun r0 => k (.bool r0)) := by kernel_rfl

theorem laws_eqProbe_fn : PM.FnIs Try.prog 274 Try.f274 := .of Try.func274 (by kernel_rfl) (by kernel_rfl)
theorem laws_eqProbe_g : PM.GOk Try.prog cx 274 ⟨[], laws_eqProbe_w (laws_eqProbe PM.std), none⟩ := by
  refine ⟨laws_eqProbe_fn.enter, fun _ ds k r h => ?_, fun hm => absurd rfl hm, fun _ e => (by cases e)⟩
  change laws_eqProbe_w (laws_eqProbe PM.std) ds k = some r at h
  unfold laws_eqProbe_w at h
  split at h
  · exact PM.pfun_ok (E := laws_eqProbe_E PM.std) (L := fun n => laws_eqProbe_L PM.std n) (N := PM.std.fuel) cx_ok .nil mixed .nil laws_eqProbe_fn (by kernel_rfl) ⟨rfl, fun _ _ _ => rfl, fun n cur σ K r h => by cases h⟩
      ((laws_eqProbe_ok PM.std _ _ _ _ _ _ _ _ k).trans h)
  · cases h

abbrev laws_szWordS_T := (List (List Int)) → (Int) → ((Int) → PM.R) → PM.R
noncomputable def laws_szWordS_w (c : laws_szWordS_T) (ds : List PM.V) (k : PM.V → PM.R) : PM.R :=
  match ds with
  | [.arr (.vecs 354 3 a), .int .i64 left] => c a left (fun r0 => k (.int .i64 r0))
  | _ => none
noncomputable def laws_szWordS_f (A : PM.Prims) (a : List (List Int)) (left : Int) (k : (Int) → PM.R) : PM.R :=
  bif (A.lt (A.sub .i64 left (A.vlen a)) 0) then
    k (-1)
  else
    k (A.sub .i64 left (A.vlen a))
noncomputable def laws_szWordS (A : PM.Prims) : laws_szWordS_T := laws_szWordS_f A
noncomputable def laws_szWordS_L (A : PM.Prims) (n : Nat) : PM.Lam := fun cur σ K =>
  match cur, σ, K with
  | _, _, _ => none
noncomputable def laws_szWordS_E (A : PM.Prims) : PM.Env := ⟨[], [], [], [(0, [0, 1]), (1, [1]), (2, [1, 10]), (3, [4]), (4, [4])], laws_szWordS_L A A.fuel⟩
theorem laws_szWordS_ok (A : PM.Prims) (a : List (List Int)) (left : Int) (k : PM.V → PM.R) : PM.pfun A cx [] (laws_szWordS_E A) Go.Proofs.Try.f199 [.arr (.vecs 354 3 a), .int .i64 left] k = laws_szWordS_f A a left (fun r0 => k (.int .i64 r0)) := by kernel_rfl

theorem laws_szWordS_fn : PM.FnIs Try.prog 199 Try.f199 := .of Try.func199 (by kernel_rfl) (by kernel_rfl)
theorem laws_szWordS_g : PM.GOk Try.prog cx 199 ⟨[], laws_szWordS_w (laws_szWordS PM.std), none⟩ := by
  refine ⟨laws_szWordS_fn.enter, fun _ ds k r h => ?_, fun hm => absurd rfl hm, fun _ e => (by cases e)⟩
  change laws_szWordS_w (laws_szWordS PM.std) ds k = some r at h
  unfold laws_szWordS_w at h
  split at h
  · exact PM.pfun_ok (E := laws_szWordS_E PM.std) (L := fun n => laws_szWordS_L PM.std n) (N := PM.std.fuel) cx_ok .nil mixed .nil laws_szWordS_fn (by kernel_rfl) ⟨rfl, fun _ _ _ => rfl, fun n cur σ K r h => by cases h⟩
      ((laws_szWordS_ok PM.std _ _ k).trans h)
  · cases h

abbrev laws_szMem_T := (Int) → (List (List Int)) → (Int) → ((Int) → PM.R) → PM.R
noncomputable def laws_szMem_w (c : laws_szMem_T) (ds : List PM.V) (k : PM.V → PM.R) : PM.R :=
  match ds with
  | [.agg [.int .i64 a_Clock, .arr (.vecs 354 3 a_Cells)], .int .i64 left] => c a_Clock a_Cells left (fun r0 => k (.int .i64 r0))
  | _ => none
noncomputable def laws_szMem_f (A : PM.Prims) (c_199 : laws_szWordS_T) (a_Clock : Int) (a_Cells : List (List Int)) (left : Int) (k : (Int) → PM.R) : PM.R :=
  c_199 a_Cells left (fun r1 =>
    bif (A.lt r1 0) then
      k (-1)
    else
      k r1)
noncomputable def laws_szMem (A : PM.Prims) : laws_szMem_T := laws_szMem_f A (laws_szWordS A)
noncomputable def laws_szMem_L (A : PM.Prims) (c_199 : laws_szWordS_T) (n : Nat) : PM.Lam := fun cur σ K =>
  match cur, σ, K with
  | _, _, _ => none
noncomputable def laws_szMem_E (A : PM.Prims) (c_199 : laws_szWordS_T) : PM.Env := ⟨[(199, ⟨[], laws_szWordS_w c_199, none⟩)], [], [], [(0, [1, 2]), (1, [1]), (2, [1, 10]), (3, [4]), (4, [4])], laws_szMem_L A c_199 A.fuel⟩
theorem laws_szMem_ok (A : PM.Prims) (c_199 : laws_szWordS_T) (a_Clock : Int) (a_Cells : List (List Int)) (left : Int) (k : PM.V → PM.R) : PM.pfun A cx [] (laws_szMem_E A c_199) Go.Proofs.Try.f108 [.agg [.int .i64 a_Clock, .arr (.vecs 354 3 a_Cells)], .int .i64 left] k = laws_szMem_f A c_199 a_Clock a_Cells left (fun r0 => k (.int .i64 r0)) := by kernel_rfl

theorem laws_szMem_fn : PM.FnIs Try.prog 108 Try.f108 := .of Try.func108 (by kernel_rfl) (by kernel_rfl)
theorem laws_szMem_g : PM.GOk Try.prog cx 108 ⟨[], laws_szMem_w (laws_szMem PM.std), none⟩ := by
  refine ⟨laws_szMem_fn.enter, fun _ ds k r h => ?_, fun hm => absurd rfl hm, fun _ e => (by cases e)⟩
  change laws_szMem_w (laws_szMem PM.std) ds k = some r at h
  unfold laws_szMem_w at h
  split at h
  · exact PM.pfun_ok (E := laws_szMem_E PM.std (laws_szWordS PM.std)) (L := fun n => laws_szMem_L PM.std (laws_szWordS PM.std) n) (N := PM.std.fuel) cx_ok (.cons laws_szWordS_g .nil) mixed .nil laws_szMem_fn (by kernel_rfl) ⟨rfl, fun _ _ _ => rfl, fun n cur σ K r h => by cases h⟩
      ((laws_szMem_ok PM.std (laws_szWordS PM.std) _ _ _ k).trans h)
  · cases h

abbrev laws_szCommit_T := (Int) → (Int) → (Int) → (Int) → (Int) → (List (List Int)) → (List Int) → (Int) → ((Int) → PM.R) → PM.R
noncomputable def laws_szCommit_w (c : laws_szCommit_T) (ds : List PM.V) (k : PM.V → PM.R) : PM.R :=
  match ds with
  | [.agg [.int .i64 a_Who, .int .i64 a_Rv, .int .i64 a_Phase, .int .i64 a_At, .int .i64 a_Wv, .arr (.vecs 297 2 a_Puts), .arr (.ints 3 .i64 a_Reads)], .int .i64 left] => c a_Who a_Rv a_Phase a_At a_Wv a_Puts a_Reads left (fun r0 => k (.int .i64 r0))
  | _ => none
noncomputable def laws_szCommit_f (A : PM.Prims) (c_146 : laws_szIntS_T) (c_147 : laws_szRowS_T) (a_Who : Int) (a_Rv : Int) (a_Phase : Int) (a_At : Int) (a_Wv : Int) (a_Puts : List (List Int)) (a_Reads : List Int) (left : Int) (k : (Int) → PM.R) : PM.R :=
  c_147 a_Puts left (fun r1 =>
    bif (A.lt r1 0) then
      k (-1)
    else
      c_146 a_Reads r1 (fun r2 =>
        bif (A.lt r2 0) then
          k (-1)
        else
          k r2))
noncomputable def laws_szCommit (A : PM.Prims) : laws_szCommit_T := laws_szCommit_f A (laws_szIntS A) (laws_szRowS A)
noncomputable def laws_szCommit_L (A : PM.Prims) (c_146 : laws_szIntS_T) (c_147 : laws_szRowS_T) (n : Nat) : PM.Lam := fun cur σ K =>
  match cur, σ, K with
  | _, _, _ => none
noncomputable def laws_szCommit_E (A : PM.Prims) (c_146 : laws_szIntS_T) (c_147 : laws_szRowS_T) : PM.Env := ⟨[(146, ⟨[], laws_szIntS_w c_146, none⟩), (147, ⟨[], laws_szRowS_w c_147, none⟩)], [], [], [(0, [1, 2]), (1, [1, 2]), (2, [1, 2, 10]), (3, [4]), (4, [1]), (5, [1, 16]), (6, [4]), (7, [4])], laws_szCommit_L A c_146 c_147 A.fuel⟩
theorem laws_szCommit_ok (A : PM.Prims) (c_146 : laws_szIntS_T) (c_147 : laws_szRowS_T) (a_Who : Int) (a_Rv : Int) (a_Phase : Int) (a_At : Int) (a_Wv : Int) (a_Puts : List (List Int)) (a_Reads : List Int) (left : Int) (k : PM.V → PM.R) : PM.pfun A cx [] (laws_szCommit_E A c_146 c_147) Go.Proofs.Try.f265 [.agg [.int .i64 a_Who, .int .i64 a_Rv, .int .i64 a_Phase, .int .i64 a_At, .int .i64 a_Wv, .arr (.vecs 297 2 a_Puts), .arr (.ints 3 .i64 a_Reads)], .int .i64 left] k = laws_szCommit_f A c_146 c_147 a_Who a_Rv a_Phase a_At a_Wv a_Puts a_Reads left (fun r0 => k (.int .i64 r0)) := by kernel_rfl

theorem laws_szCommit_fn : PM.FnIs Try.prog 265 Try.f265 := .of Try.func265 (by kernel_rfl) (by kernel_rfl)
theorem laws_szCommit_g : PM.GOk Try.prog cx 265 ⟨[], laws_szCommit_w (laws_szCommit PM.std), none⟩ := by
  refine ⟨laws_szCommit_fn.enter, fun _ ds k r h => ?_, fun hm => absurd rfl hm, fun _ e => (by cases e)⟩
  change laws_szCommit_w (laws_szCommit PM.std) ds k = some r at h
  unfold laws_szCommit_w at h
  split at h
  · exact PM.pfun_ok (E := laws_szCommit_E PM.std (laws_szIntS PM.std) (laws_szRowS PM.std)) (L := fun n => laws_szCommit_L PM.std (laws_szIntS PM.std) (laws_szRowS PM.std) n) (N := PM.std.fuel) cx_ok (.cons laws_szIntS_g (.cons laws_szRowS_g .nil)) mixed .nil laws_szCommit_fn (by kernel_rfl) ⟨rfl, fun _ _ _ => rfl, fun n cur σ K r h => by cases h⟩
      ((laws_szCommit_ok PM.std (laws_szIntS PM.std) (laws_szRowS PM.std) _ _ _ _ _ _ _ _ k).trans h)
  · cases h

abbrev laws_szJobRun_T := (Int) → (Int) → (Int) → (Int) → (Int) → (List (List Int)) → (Bool) → (Int) → (Int) → (Int) → (Int) → (Int) → (Int) → (Int) → (Int) → (Int) → (List (List Int)) → (List Int) → (Int) → ((Int) → PM.R) → PM.R
noncomputable def laws_szJobRun_w (c : laws_szJobRun_T) (ds : List PM.V) (k : PM.V → PM.R) : PM.R :=
  match ds with
  | [.agg [.int .i64 a_Phase, .int .i64 a_Tries, .int .i64 a_Rv, .int .i64 a_At, .int .i64 a_Stamp, .arr (.vecs 297 2 a_Seen), .bool a_Busy, .int .i64 a_Probe_Cell, .int .i64 a_Probe_Phase, .int .i64 a_Probe_Ver, .int .i64 a_Probe_Val, .int .i64 a_Commit_Who, .int .i64 a_Commit_Rv, .int .i64 a_Commit_Phase, .int .i64 a_Commit_At, .int .i64 a_Commit_Wv, .arr (.vecs 297 2 a_Commit_Puts), .arr (.ints 3 .i64 a_Commit_Reads)], .int .i64 left] => c a_Phase a_Tries a_Rv a_At a_Stamp a_Seen a_Busy a_Probe_Cell a_Probe_Phase a_Probe_Ver a_Probe_Val a_Commit_Who a_Commit_Rv a_Commit_Phase a_Commit_At a_Commit_Wv a_Commit_Puts a_Commit_Reads left (fun r0 => k (.int .i64 r0))
  | _ => none
noncomputable def laws_szJobRun_f (A : PM.Prims) (c_147 : laws_szRowS_T) (c_265 : laws_szCommit_T) (a_Phase : Int) (a_Tries : Int) (a_Rv : Int) (a_At : Int) (a_Stamp : Int) (a_Seen : List (List Int)) (a_Busy : Bool) (a_Probe_Cell : Int) (a_Probe_Phase : Int) (a_Probe_Ver : Int) (a_Probe_Val : Int) (a_Commit_Who : Int) (a_Commit_Rv : Int) (a_Commit_Phase : Int) (a_Commit_At : Int) (a_Commit_Wv : Int) (a_Commit_Puts : List (List Int)) (a_Commit_Reads : List Int) (left : Int) (k : (Int) → PM.R) : PM.R :=
  c_147 a_Seen left (fun r1 =>
    bif (A.lt r1 0) then
      k (-1)
    else
      c_265 a_Commit_Who a_Commit_Rv a_Commit_Phase a_Commit_At a_Commit_Wv a_Commit_Puts a_Commit_Reads r1 (fun r2 =>
        bif (A.lt r2 0) then
          k (-1)
        else
          k r2))
noncomputable def laws_szJobRun (A : PM.Prims) : laws_szJobRun_T := laws_szJobRun_f A (laws_szRowS A) (laws_szCommit A)
noncomputable def laws_szJobRun_L (A : PM.Prims) (c_147 : laws_szRowS_T) (c_265 : laws_szCommit_T) (n : Nat) : PM.Lam := fun cur σ K =>
  match cur, σ, K with
  | _, _, _ => none
noncomputable def laws_szJobRun_E (A : PM.Prims) (c_147 : laws_szRowS_T) (c_265 : laws_szCommit_T) : PM.Env := ⟨[(147, ⟨[], laws_szRowS_w c_147, none⟩), (265, ⟨[], laws_szCommit_w c_265, none⟩)], [], [], [(0, [1, 2]), (1, [1, 2]), (2, [1, 2, 10]), (3, [4]), (4, [1]), (5, [1, 16]), (6, [4]), (7, [4])], laws_szJobRun_L A c_147 c_265 A.fuel⟩
theorem laws_szJobRun_ok (A : PM.Prims) (c_147 : laws_szRowS_T) (c_265 : laws_szCommit_T) (a_Phase : Int) (a_Tries : Int) (a_Rv : Int) (a_At : Int) (a_Stamp : Int) (a_Seen : List (List Int)) (a_Busy : Bool) (a_Probe_Cell : Int) (a_Probe_Phase : Int) (a_Probe_Ver : Int) (a_Probe_Val : Int) (a_Commit_Who : Int) (a_Commit_Rv : Int) (a_Commit_Phase : Int) (a_Commit_At : Int) (a_Commit_Wv : Int) (a_Commit_Puts : List (List Int)) (a_Commit_Reads : List Int) (left : Int) (k : PM.V → PM.R) : PM.pfun A cx [] (laws_szJobRun_E A c_147 c_265) Go.Proofs.Try.f208 [.agg [.int .i64 a_Phase, .int .i64 a_Tries, .int .i64 a_Rv, .int .i64 a_At, .int .i64 a_Stamp, .arr (.vecs 297 2 a_Seen), .bool a_Busy, .int .i64 a_Probe_Cell, .int .i64 a_Probe_Phase, .int .i64 a_Probe_Ver, .int .i64 a_Probe_Val, .int .i64 a_Commit_Who, .int .i64 a_Commit_Rv, .int .i64 a_Commit_Phase, .int .i64 a_Commit_At, .int .i64 a_Commit_Wv, .arr (.vecs 297 2 a_Commit_Puts), .arr (.ints 3 .i64 a_Commit_Reads)], .int .i64 left] k = laws_szJobRun_f A c_147 c_265 a_Phase a_Tries a_Rv a_At a_Stamp a_Seen a_Busy a_Probe_Cell a_Probe_Phase a_Probe_Ver a_Probe_Val a_Commit_Who a_Commit_Rv a_Commit_Phase a_Commit_At a_Commit_Wv a_Commit_Puts a_Commit_Reads left (fun r0 => k (.int .i64 r0)) := by kernel_rfl

theorem laws_szJobRun_fn : PM.FnIs Try.prog 208 Try.f208 := .of Try.func208 (by kernel_rfl) (by kernel_rfl)
theorem laws_szJobRun_g : PM.GOk Try.prog cx 208 ⟨[], laws_szJobRun_w (laws_szJobRun PM.std), none⟩ := by
  refine ⟨laws_szJobRun_fn.enter, fun _ ds k r h => ?_, fun hm => absurd rfl hm, fun _ e => (by cases e)⟩
  change laws_szJobRun_w (laws_szJobRun PM.std) ds k = some r at h
  unfold laws_szJobRun_w at h
  split at h
  · exact PM.pfun_ok (E := laws_szJobRun_E PM.std (laws_szRowS PM.std) (laws_szCommit PM.std)) (L := fun n => laws_szJobRun_L PM.std (laws_szRowS PM.std) (laws_szCommit PM.std) n) (N := PM.std.fuel) cx_ok (.cons laws_szRowS_g (.cons laws_szCommit_g .nil)) mixed .nil laws_szJobRun_fn (by kernel_rfl) ⟨rfl, fun _ _ _ => rfl, fun n cur σ K r h => by cases h⟩
      ((laws_szJobRun_ok PM.std (laws_szRowS PM.std) (laws_szCommit PM.std) _ _ _ _ _ _ _ _ _ _ _ _ _ _ _ _ _ _ _ k).trans h)
  · cases h

abbrev laws_szJobRunS_T := (List (List PM.C)) → (Int) → ((Int) → PM.R) → PM.R
noncomputable def laws_szJobRunS_w (c : laws_szJobRunS_T) (ds : List PM.V) (k : PM.V → PM.R) : PM.R :=
  match ds with
  | [.arr (.rows 285 a), .int .i64 left] => c a left (fun r0 => k (.int .i64 r0))
  | _ => none
noncomputable def laws_szJobRunS_l0 (A : PM.Prims) (c_208 : laws_szJobRun_T) : Nat → (List (List C)) → (Int) → (Int) → ((Int) → PM.R) → ((Int) → PM.R) → PM.R
  | 0, _, _, _, _, _ => none
  | n + 1, a1, left2, i3, kret_0, kx0_0 =>
    bif (A.lt i3 (A.rlen a1)) then
      bif (A.inb i3 (A.rlen a1)) then
        c_208 (A.rint a1 i3 0) (A.rint a1 i3 1) (A.rint a1 i3 2) (A.rint a1 i3 3) (A.rint a1 i3 4) (A.rsv 2 a1 i3 5) (A.rbool a1 i3 6) (A.rint a1 i3 7) (A.rint a1 i3 8) (A.rint a1 i3 9) (A.rint a1 i3 10) (A.rint a1 i3 11) (A.rint a1 i3 12) (A.rint a1 i3 13) (A.rint a1 i3 14) (A.rint a1 i3 15) (A.rsv 2 a1 i3 16) (A.rsi a1 i3 17) left2 (fun r4 =>
          bif (A.lt r4 0) then
            kret_0 (-1)
          else
            laws_szJobRunS_l0 A c_208 n a1 r4 (A.add .i64 i3 1) kret_0 kx0_0)
      else
        none
    else
      kx0_0 left2
noncomputable def laws_szJobRunS_f (A : PM.Prims) (c_208 : laws_szJobRun_T) (a : List (List PM.C)) (left : Int) (k : (Int) → PM.R) : PM.R :=
  bif (A.lt (A.sub .i64 left (A.rlen a)) 0) then
    k (-1)
  else
    laws_szJobRunS_l0 A c_208 A.fuel a (A.sub .i64 left (A.rlen a)) 0 (fun t457 =>
      k t457) (fun left68 =>
      k left68)
noncomputable def laws_szJobRunS (A : PM.Prims) : laws_szJobRunS_T := laws_szJobRunS_f A (laws_szJobRun A)
noncomputable def laws_szJobRunS_L (A : PM.Prims) (c_208 : laws_szJobRun_T) (n : Nat) : PM.Lam := fun cur σ K =>
  match cur, σ, K with
  | 0, ⟨[(0, .arr (.rows 285 a1)), (1, .int .i64 left2), (5, .int .i64 i3)], []⟩, K => laws_szJobRunS_l0 A c_208 n a1 left2 i3 (fun t45 => K .ret ⟨[(4, .int .i64 t45)], []⟩) (fun left6 => K (.exit 0) ⟨[(1, .int .i64 left6)], []⟩)
  | _, _, _ => none
noncomputable def laws_szJobRunS_E (A : PM.Prims) (c_208 : laws_szJobRun_T) : PM.Env := ⟨[(208, ⟨[], laws_szJobRun_w c_208, none⟩)], [], [(0, [0, 1, 5], [1, 4])], [(0, [0, 1]), (1, [0, 1]), (2, [0, 1, 11]), (3, [4]), (4, [0, 1, 5]), (5, [0, 1, 5, 15]), (6, [0, 1, 5]), (7, [0, 1, 5]), (8, [0, 1, 5, 25]), (9, [4]), (10, [4])], laws_szJobRunS_L A c_208 A.fuel⟩
theorem laws_szJobRunS_l0_ok (A : PM.Prims) (c_208 : laws_szJobRun_T) (n : Nat) (a1 : List (List C)) (left2 : Int) (i3 : Int) (K : Go.Exit → PM.S → PM.R) : laws_szJobRunS_L A c_208 (n + 1) 0 ⟨[(0, .arr (.rows 285 a1)), (1, .int .i64 left2), (5, .int .i64 i3)], []⟩ K = PM.roundF A cx (PM.runD A cx (laws_szJobRunS_E A c_208).inl (laws_szJobRunS_E A c_208).Γ 3) (laws_szJobRunS_E A c_208) (laws_szJobRunS_L A c_208 n) 0 Go.Proofs.Try.f122 ⟨[(0, .arr (.rows 285 a1)), (1, .int .i64 left2), (5, .int .i64 i3)], []⟩ K := by kernel_rfl
theorem laws_szJobRunS_ok (A : PM.Prims) (c_208 : laws_szJobRun_T) (a : List (List PM.C)) (left : Int) (k : PM.V → PM.R) : PM.pfun A cx [] (laws_szJobRunS_E A c_208) Go.Proofs.Try.f122 [.arr (.rows 285 a), .int .i64 left] k = laws_szJobRunS_f A c_208 a left (fun r0 => k (.int .i64 r0)) := by kernel_rfl

theorem laws_szJobRunS_fn : PM.FnIs Try.prog 122 Try.f122 := .of Try.func122 (by kernel_rfl) (by kernel_rfl)
theorem laws_szJobRunS_g : PM.GOk Try.prog cx 122 ⟨[], laws_szJobRunS_w (laws_szJobRunS PM.std), none⟩ := by
  refine ⟨laws_szJobRunS_fn.enter, fun _ ds k r h => ?_, fun hm => absurd rfl hm, fun _ e => (by cases e)⟩
  change laws_szJobRunS_w (laws_szJobRunS PM.std) ds k = some r at h
  unfold laws_szJobRunS_w at h
  split at h
  · exact PM.pfun_ok (E := laws_szJobRunS_E PM.std (laws_szJobRun PM.std)) (L := fun n => laws_szJobRunS_L PM.std (laws_szJobRun PM.std) n) (N := PM.std.fuel) cx_ok (.cons laws_szJobRun_g .nil) mixed .nil laws_szJobRunS_fn (by kernel_rfl) ⟨rfl, fun cur σ K => by
      dsimp only [laws_szJobRunS_L]
      split <;> rfl, fun n cur σ K r h => by
      dsimp only [laws_szJobRunS_L] at h
      split at h
      · exact (laws_szJobRunS_l0_ok PM.std (laws_szJobRun PM.std) n _ _ _ K).symm.trans h
      · cases h⟩
      ((laws_szJobRunS_ok PM.std (laws_szJobRun PM.std) _ _ k).trans h)
  · cases h

abbrev laws_szWrote_T := (Int) → (Int) → (List (List Int)) → (Int) → ((Int) → PM.R) → PM.R
noncomputable def laws_szWrote_w (c : laws_szWrote_T) (ds : List PM.V) (k : PM.V → PM.R) : PM.R :=
  match ds with
  | [.agg [.int .i64 a_Stamp, .int .i64 a_Who, .arr (.vecs 297 2 a_Puts)], .int .i64 left] => c a_Stamp a_Who a_Puts left (fun r0 => k (.int .i64 r0))
  | _ => none
noncomputable def laws_szWrote_f (A : PM.Prims) (c_147 : laws_szRowS_T) (a_Stamp : Int) (a_Who : Int) (a_Puts : List (List Int)) (left : Int) (k : (Int) → PM.R) : PM.R :=
  c_147 a_Puts left (fun r1 =>
    bif (A.lt r1 0) then
      k (-1)
    else
      k r1)
noncomputable def laws_szWrote (A : PM.Prims) : laws_szWrote_T := laws_szWrote_f A (laws_szRowS A)
noncomputable def laws_szWrote_L (A : PM.Prims) (c_147 : laws_szRowS_T) (n : Nat) : PM.Lam := fun cur σ K =>
  match cur, σ, K with
  | _, _, _ => none
noncomputable def laws_szWrote_E (A : PM.Prims) (c_147 : laws_szRowS_T) : PM.Env := ⟨[(147, ⟨[], laws_szRowS_w c_147, none⟩)], [], [], [(0, [1, 2]), (1, [1]), (2, [1, 10]), (3, [4]), (4, [4])], laws_szWrote_L A c_147 A.fuel⟩
theorem laws_szWrote_ok (A : PM.Prims) (c_147 : laws_szRowS_T) (a_Stamp : Int) (a_Who : Int) (a_Puts : List (List Int)) (left : Int) (k : PM.V → PM.R) : PM.pfun A cx [] (laws_szWrote_E A c_147) Go.Proofs.Try.f132 [.agg [.int .i64 a_Stamp, .int .i64 a_Who, .arr (.vecs 297 2 a_Puts)], .int .i64 left] k = laws_szWrote_f A c_147 a_Stamp a_Who a_Puts left (fun r0 => k (.int .i64 r0)) := by kernel_rfl

theorem laws_szWrote_fn : PM.FnIs Try.prog 132 Try.f132 := .of Try.func132 (by kernel_rfl) (by kernel_rfl)
theorem laws_szWrote_g : PM.GOk Try.prog cx 132 ⟨[], laws_szWrote_w (laws_szWrote PM.std), none⟩ := by
  refine ⟨laws_szWrote_fn.enter, fun _ ds k r h => ?_, fun hm => absurd rfl hm, fun _ e => (by cases e)⟩
  change laws_szWrote_w (laws_szWrote PM.std) ds k = some r at h
  unfold laws_szWrote_w at h
  split at h
  · exact PM.pfun_ok (E := laws_szWrote_E PM.std (laws_szRowS PM.std)) (L := fun n => laws_szWrote_L PM.std (laws_szRowS PM.std) n) (N := PM.std.fuel) cx_ok (.cons laws_szRowS_g .nil) mixed .nil laws_szWrote_fn (by kernel_rfl) ⟨rfl, fun _ _ _ => rfl, fun n cur σ K r h => by cases h⟩
      ((laws_szWrote_ok PM.std (laws_szRowS PM.std) _ _ _ _ k).trans h)
  · cases h

abbrev laws_szWroteS_T := (List (List PM.C)) → (Int) → ((Int) → PM.R) → PM.R
noncomputable def laws_szWroteS_w (c : laws_szWroteS_T) (ds : List PM.V) (k : PM.V → PM.R) : PM.R :=
  match ds with
  | [.arr (.rows 195 a), .int .i64 left] => c a left (fun r0 => k (.int .i64 r0))
  | _ => none
noncomputable def laws_szWroteS_l0 (A : PM.Prims) (c_132 : laws_szWrote_T) : Nat → (List (List C)) → (Int) → (Int) → ((Int) → PM.R) → ((Int) → PM.R) → PM.R
  | 0, _, _, _, _, _ => none
  | n + 1, a1, left2, i3, kret_0, kx0_0 =>
    bif (A.lt i3 (A.rlen a1)) then
      bif (A.inb i3 (A.rlen a1)) then
        c_132 (A.rint a1 i3 0) (A.rint a1 i3 1) (A.rsv 2 a1 i3 2) left2 (fun r4 =>
          bif (A.lt r4 0) then
            kret_0 (-1)
          else
            laws_szWroteS_l0 A c_132 n a1 r4 (A.add .i64 i3 1) kret_0 kx0_0)
      else
        none
    else
      kx0_0 left2
noncomputable def laws_szWroteS_f (A : PM.Prims) (c_132 : laws_szWrote_T) (a : List (List PM.C)) (left : Int) (k : (Int) → PM.R) : PM.R :=
  bif (A.lt (A.sub .i64 left (A.rlen a)) 0) then
    k (-1)
  else
    laws_szWroteS_l0 A c_132 A.fuel a (A.sub .i64 left (A.rlen a)) 0 (fun t457 =>
      k t457) (fun left68 =>
      k left68)
noncomputable def laws_szWroteS (A : PM.Prims) : laws_szWroteS_T := laws_szWroteS_f A (laws_szWrote A)
noncomputable def laws_szWroteS_L (A : PM.Prims) (c_132 : laws_szWrote_T) (n : Nat) : PM.Lam := fun cur σ K =>
  match cur, σ, K with
  | 0, ⟨[(0, .arr (.rows 195 a1)), (1, .int .i64 left2), (5, .int .i64 i3)], []⟩, K => laws_szWroteS_l0 A c_132 n a1 left2 i3 (fun t45 => K .ret ⟨[(4, .int .i64 t45)], []⟩) (fun left6 => K (.exit 0) ⟨[(1, .int .i64 left6)], []⟩)
  | _, _, _ => none
noncomputable def laws_szWroteS_E (A : PM.Prims) (c_132 : laws_szWrote_T) : PM.Env := ⟨[(132, ⟨[], laws_szWrote_w c_132, none⟩)], [], [(0, [0, 1, 5], [1, 4])], [(0, [0, 1]), (1, [0, 1]), (2, [0, 1, 11]), (3, [4]), (4, [0, 1, 5]), (5, [0, 1, 5, 15]), (6, [0, 1, 5]), (7, [0, 1, 5]), (8, [0, 1, 5, 25]), (9, [4]), (10, [4])], laws_szWroteS_L A c_132 A.fuel⟩
theorem laws_szWroteS_l0_ok (A : PM.Prims) (c_132 : laws_szWrote_T) (n : Nat) (a1 : List (List C)) (left2 : Int) (i3 : Int) (K : Go.Exit → PM.S → PM.R) : laws_szWroteS_L A c_132 (n + 1) 0 ⟨[(0, .arr (.rows 195 a1)), (1, .int .i64 left2), (5, .int .i64 i3)], []⟩ K = PM.roundF A cx (PM.runD A cx (laws_szWroteS_E A c_132).inl (laws_szWroteS_E A c_132).Γ 3) (laws_szWroteS_E A c_132) (laws_szWroteS_L A c_132 n) 0 Go.Proofs.Try.f42 ⟨[(0, .arr (.rows 195 a1)), (1, .int .i64 left2), (5, .int .i64 i3)], []⟩ K := by kernel_rfl
theorem laws_szWroteS_ok (A : PM.Prims) (c_132 : laws_szWrote_T) (a : List (List PM.C)) (left : Int) (k : PM.V → PM.R) : PM.pfun A cx [] (laws_szWroteS_E A c_132) Go.Proofs.Try.f42 [.arr (.rows 195 a), .int .i64 left] k = laws_szWroteS_f A c_132 a left (fun r0 => k (.int .i64 r0)) := by kernel_rfl

theorem laws_szWroteS_fn : PM.FnIs Try.prog 42 Try.f42 := .of Try.func42 (by kernel_rfl) (by kernel_rfl)
theorem laws_szWroteS_g : PM.GOk Try.prog cx 42 ⟨[], laws_szWroteS_w (laws_szWroteS PM.std), none⟩ := by
  refine ⟨laws_szWroteS_fn.enter, fun _ ds k r h => ?_, fun hm => absurd rfl hm, fun _ e => (by cases e)⟩
  change laws_szWroteS_w (laws_szWroteS PM.std) ds k = some r at h
  unfold laws_szWroteS_w at h
  split at h
  · exact PM.pfun_ok (E := laws_szWroteS_E PM.std (laws_szWrote PM.std)) (L := fun n => laws_szWroteS_L PM.std (laws_szWrote PM.std) n) (N := PM.std.fuel) cx_ok (.cons laws_szWrote_g .nil) mixed .nil laws_szWroteS_fn (by kernel_rfl) ⟨rfl, fun cur σ K => by
      dsimp only [laws_szWroteS_L]
      split <;> rfl, fun n cur σ K r h => by
      dsimp only [laws_szWroteS_L] at h
      split at h
      · exact (laws_szWroteS_l0_ok PM.std (laws_szWrote PM.std) n _ _ _ K).symm.trans h
      · cases h⟩
      ((laws_szWroteS_ok PM.std (laws_szWrote PM.std) _ _ k).trans h)
  · cases h

abbrev laws_szDuel_T := (Int) → (List (List Int)) → (List (List PM.C)) → (List (List PM.C)) → (Int) → ((Int) → PM.R) → PM.R
noncomputable def laws_szDuel_w (c : laws_szDuel_T) (ds : List PM.V) (k : PM.V → PM.R) : PM.R :=
  match ds with
  | [.agg [.int .i64 a_Mem_Clock, .arr (.vecs 354 3 a_Mem_Cells), .arr (.rows 285 a_Jobs), .arr (.rows 195 a_Hist)], .int .i64 left] => c a_Mem_Clock a_Mem_Cells a_Jobs a_Hist left (fun r0 => k (.int .i64 r0))
  | _ => none
noncomputable def laws_szDuel_f (A : PM.Prims) (c_108 : laws_szMem_T) (c_42 : laws_szWroteS_T) (c_122 : laws_szJobRunS_T) (a_Mem_Clock : Int) (a_Mem_Cells : List (List Int)) (a_Jobs : List (List PM.C)) (a_Hist : List (List PM.C)) (left : Int) (k : (Int) → PM.R) : PM.R :=
  c_108 a_Mem_Clock a_Mem_Cells left (fun r1 =>
    bif (A.lt r1 0) then
      k (-1)
    else
      c_122 a_Jobs r1 (fun r2 =>
        bif (A.lt r2 0) then
          k (-1)
        else
          c_42 a_Hist r2 (fun r3 =>
            bif (A.lt r3 0) then
              k (-1)
            else
              k r3)))
noncomputable def laws_szDuel (A : PM.Prims) : laws_szDuel_T := laws_szDuel_f A (laws_szMem A) (laws_szWroteS A) (laws_szJobRunS A)
noncomputable def laws_szDuel_L (A : PM.Prims) (c_108 : laws_szMem_T) (c_42 : laws_szWroteS_T) (c_122 : laws_szJobRunS_T) (n : Nat) : PM.Lam := fun cur σ K =>
  match cur, σ, K with
  | _, _, _ => none
noncomputable def laws_szDuel_E (A : PM.Prims) (c_108 : laws_szMem_T) (c_42 : laws_szWroteS_T) (c_122 : laws_szJobRunS_T) : PM.Env := ⟨[(108, ⟨[], laws_szMem_w c_108, none⟩), (42, ⟨[], laws_szWroteS_w c_42, none⟩), (122, ⟨[], laws_szJobRunS_w c_122, none⟩)], [], [], [(0, [1, 2]), (1, [1, 2]), (2, [1, 2, 10]), (3, [4]), (4, [1, 2]), (5, [1, 2, 16]), (6, [4]), (7, [1]), (8, [1, 22]), (9, [4]), (10, [4])], laws_szDuel_L A c_108 c_42 c_122 A.fuel⟩
theorem laws_szDuel_ok (A : PM.Prims) (c_108 : laws_szMem_T) (c_42 : laws_szWroteS_T) (c_122 : laws_szJobRunS_T) (a_Mem_Clock : Int) (a_Mem_Cells : List (List Int)) (a_Jobs : List (List PM.C)) (a_Hist : List (List PM.C)) (left : Int) (k : PM.V → PM.R) : PM.pfun A cx [] (laws_szDuel_E A c_108 c_42 c_122) Go.Proofs.Try.f35 [.agg [.int .i64 a_Mem_Clock, .arr (.vecs 354 3 a_Mem_Cells), .arr (.rows 285 a_Jobs), .arr (.rows 195 a_Hist)], .int .i64 left] k = laws_szDuel_f A c_108 c_42 c_122 a_Mem_Clock a_Mem_Cells a_Jobs a_Hist left (fun r0 => k (.int .i64 r0)) := by kernel_rfl

theorem laws_szDuel_fn : PM.FnIs Try.prog 35 Try.f35 := .of Try.func35 (by kernel_rfl) (by kernel_rfl)
theorem laws_szDuel_g : PM.GOk Try.prog cx 35 ⟨[], laws_szDuel_w (laws_szDuel PM.std), none⟩ := by
  refine ⟨laws_szDuel_fn.enter, fun _ ds k r h => ?_, fun hm => absurd rfl hm, fun _ e => (by cases e)⟩
  change laws_szDuel_w (laws_szDuel PM.std) ds k = some r at h
  unfold laws_szDuel_w at h
  split at h
  · exact PM.pfun_ok (E := laws_szDuel_E PM.std (laws_szMem PM.std) (laws_szWroteS PM.std) (laws_szJobRunS PM.std)) (L := fun n => laws_szDuel_L PM.std (laws_szMem PM.std) (laws_szWroteS PM.std) (laws_szJobRunS PM.std) n) (N := PM.std.fuel) cx_ok (.cons laws_szMem_g (.cons laws_szWroteS_g (.cons laws_szJobRunS_g .nil))) mixed .nil laws_szDuel_fn (by kernel_rfl) ⟨rfl, fun _ _ _ => rfl, fun n cur σ K r h => by cases h⟩
      ((laws_szDuel_ok PM.std (laws_szMem PM.std) (laws_szWroteS PM.std) (laws_szJobRunS PM.std) _ _ _ _ _ k).trans h)
  · cases h

abbrev laws_toWord_T := (Int) → (Int) → (Int) → ((Int) → (Int) → (Int) → PM.R) → PM.R
noncomputable def laws_toWord_w (c : laws_toWord_T) (ds : List PM.V) (k : PM.V → PM.R) : PM.R :=
  match ds with
  | [.agg [.int .i64 a_Val, .int .i64 a_Ver, .int .i64 a_Owner]] => c a_Val a_Ver a_Owner (fun r0_Val r0_Ver r0_Owner => k (.agg [.int .i64 r0_Val, .int .i64 r0_Ver, .int .i64 r0_Owner]))
  | _ => none
noncomputable def laws_toWord_f (A : PM.Prims) (a_Val : Int) (a_Ver : Int) (a_Owner : Int) (k : (Int) → (Int) → (Int) → PM.R) : PM.R :=
  k a_Val a_Ver a_Owner
noncomputable def laws_toWord (A : PM.Prims) : laws_toWord_T := laws_toWord_f A
noncomputable def laws_toWord_L (A : PM.Prims) (n : Nat) : PM.Lam := fun cur σ K =>
  match cur, σ, K with
  | _, _, _ => none
noncomputable def laws_toWord_E (A : PM.Prims) : PM.Env := ⟨[], [], [], [(0, [1, 2]), (1, [1, 2, 3]), (2, [1, 2, 3]), (3, [1, 2, 3]), (4, [2, 3]), (5, [2])], laws_toWord_L A A.fuel⟩
theorem laws_toWord_ok (A : PM.Prims) (a_Val : Int) (a_Ver : Int) (a_Owner : Int) (k : PM.V → PM.R) : PM.pfun A cx [] (laws_toWord_E A) Go.Proofs.Try.f266 [.agg [.int .i64 a_Val, .int .i64 a_Ver, .int .i64 a_Owner]] k = laws_toWord_f A a_Val a_Ver a_Owner (fun r0_Val r0_Ver r0_Owner => k (.agg [.int .i64 r0_Val, .int .i64 r0_Ver, .int .i64 r0_Owner])) := by kernel_rfl

theorem laws_toWord_fn : PM.FnIs Try.prog 266 Try.f266 := .of Try.func266 (by kernel_rfl) (by kernel_rfl)
theorem laws_toWord_g : PM.GOk Try.prog cx 266 ⟨[], laws_toWord_w (laws_toWord PM.std), none⟩ := by
  refine ⟨laws_toWord_fn.enter, fun _ ds k r h => ?_, fun hm => absurd rfl hm, fun _ e => (by cases e)⟩
  change laws_toWord_w (laws_toWord PM.std) ds k = some r at h
  unfold laws_toWord_w at h
  split at h
  · exact PM.pfun_ok (E := laws_toWord_E PM.std) (L := fun n => laws_toWord_L PM.std n) (N := PM.std.fuel) cx_ok .nil mixed .nil laws_toWord_fn (by kernel_rfl) ⟨rfl, fun _ _ _ => rfl, fun n cur σ K r h => by cases h⟩
      ((laws_toWord_ok PM.std _ _ _ k).trans h)
  · cases h

abbrev laws_toWordS_T := (List (List Int)) → ((List (List Int)) → PM.R) → PM.R
noncomputable def laws_toWordS_w (c : laws_toWordS_T) (ds : List PM.V) (k : PM.V → PM.R) : PM.R :=
  match ds with
  | [.arr (.vecs 354 3 a)] => c a (fun r0 => k (.arr (.vecs 287 3 r0)))
  | _ => none
noncomputable def laws_toWordS_l0 (A : PM.Prims) (c_266 : laws_toWord_T) : Nat → (List (List Int)) → (Int) → (List (List Int)) → ((List (List Int)) → PM.R) → PM.R
  | 0, _, _, _, _ => none
  | n + 1, a1, i2, o03, kx0_0 =>
    bif (A.lt i2 (A.vlen a1)) then
      bif (A.inb i2 (A.vlen a1)) then
        c_266 (A.vget a1 i2 0) (A.vget a1 i2 1) (A.vget a1 i2 2) (fun r4 r5 r6 =>
          bif (A.inb i2 (A.vlen o03)) then
            laws_toWordS_l0 A c_266 n a1 (A.add .i64 i2 1) (A.vput o03 i2 [r4, r5, r6]) kx0_0
          else
            none)
      else
        none
    else
      kx0_0 o03
noncomputable def laws_toWordS_f (A : PM.Prims) (c_266 : laws_toWord_T) (a : List (List Int)) (k : (List (List Int)) → PM.R) : PM.R :=
  bif (A.mkOk (A.vlen a)) then
    bif (A.le (A.vlen a) (A.vlen a)) then
      bif (A.mkOk (A.vlen a)) then
        laws_toWordS_l0 A c_266 A.fuel a 0 (A.vzero 3 (A.vlen a)) (fun o078 =>
          k o078)
      else
        none
    else
      none
  else
    none
noncomputable def laws_toWordS (A : PM.Prims) : laws_toWordS_T := laws_toWordS_f A (laws_toWord A)
noncomputable def laws_toWordS_L (A : PM.Prims) (c_266 : laws_toWord_T) (n : Nat) : PM.Lam := fun cur σ K =>
  match cur, σ, K with
  | 0, ⟨[(0, .arr (.vecs 354 3 a1)), (3, .sref 0), (4, .int .i64 i2)], [(0, .arr true (.vecs 287 3 o03))]⟩, K => laws_toWordS_l0 A c_266 n a1 i2 o03 (fun o07 => K (.exit 0) ⟨[(3, .sref 0)], [(0, .arr true (.vecs 287 3 o07))]⟩)
  | _, _, _ => none
noncomputable def laws_toWordS_E (A : PM.Prims) (c_266 : laws_toWord_T) : PM.Env := ⟨[(266, ⟨[], laws_toWord_w c_266, none⟩)], [], [(0, [0, 3, 4], [2, 3])], [(0, [0]), (1, [0, 3]), (2, [0, 3, 4]), (3, [0, 3, 4, 11]), (4, [0, 3, 4]), (5, [0, 3, 4]), (6, [2])], laws_toWordS_L A c_266 A.fuel⟩
theorem laws_toWordS_l0_ok (A : PM.Prims) (c_266 : laws_toWord_T) (n : Nat) (a1 : List (List Int)) (i2 : Int) (o03 : List (List Int)) (K : Go.Exit → PM.S → PM.R) : laws_toWordS_L A c_266 (n + 1) 0 ⟨[(0, .arr (.vecs 354 3 a1)), (3, .sref 0), (4, .int .i64 i2)], [(0, .arr true (.vecs 287 3 o03))]⟩ K = PM.roundF A cx (PM.runD A cx (laws_toWordS_E A c_266).inl (laws_toWordS_E A c_266).Γ 3) (laws_toWordS_E A c_266) (laws_toWordS_L A c_266 n) 0 Go.Proofs.Try.f201 ⟨[(0, .arr (.vecs 354 3 a1)), (3, .sref 0), (4, .int .i64 i2)], [(0, .arr true (.vecs 287 3 o03))]⟩ K := by kernel_rfl
theorem laws_toWordS_ok (A : PM.Prims) (c_266 : laws_toWord_T) (a : List (List Int)) (k : PM.V → PM.R) : PM.pfun A cx [] (laws_toWordS_E A c_266) Go.Proofs.Try.f201 [.arr (.vecs 354 3 a)] k = laws_toWordS_f A c_266 a (fun r0 => k (.arr (.vecs 287 3 r0))) := by kernel_rfl

theorem laws_toWordS_fn : PM.FnIs Try.prog 201 Try.f201 := .of Try.func201 (by kernel_rfl) (by kernel_rfl)
theorem laws_toWordS_g : PM.GOk Try.prog cx 201 ⟨[], laws_toWordS_w (laws_toWordS PM.std), none⟩ := by
  refine ⟨laws_toWordS_fn.enter, fun _ ds k r h => ?_, fun hm => absurd rfl hm, fun _ e => (by cases e)⟩
  change laws_toWordS_w (laws_toWordS PM.std) ds k = some r at h
  unfold laws_toWordS_w at h
  split at h
  · exact PM.pfun_ok (E := laws_toWordS_E PM.std (laws_toWord PM.std)) (L := fun n => laws_toWordS_L PM.std (laws_toWord PM.std) n) (N := PM.std.fuel) cx_ok (.cons laws_toWord_g .nil) mixed .nil laws_toWordS_fn (by kernel_rfl) ⟨rfl, fun cur σ K => by
      dsimp only [laws_toWordS_L]
      split <;> rfl, fun n cur σ K r h => by
      dsimp only [laws_toWordS_L] at h
      split at h
      · exact (laws_toWordS_l0_ok PM.std (laws_toWord PM.std) n _ _ _ K).symm.trans h
      · cases h⟩
      ((laws_toWordS_ok PM.std (laws_toWord PM.std) _ k).trans h)
  · cases h

abbrev laws_toMem_T := (Int) → (List (List Int)) → ((Int) → (List (List Int)) → PM.R) → PM.R
noncomputable def laws_toMem_w (c : laws_toMem_T) (ds : List PM.V) (k : PM.V → PM.R) : PM.R :=
  match ds with
  | [.agg [.int .i64 a_Clock, .arr (.vecs 354 3 a_Cells)]] => c a_Clock a_Cells (fun r0_Clock r0_Cells => k (.agg [.int .i64 r0_Clock, .arr (.vecs 287 3 r0_Cells)]))
  | _ => none
noncomputable def laws_toMem_f (A : PM.Prims) (c_201 : laws_toWordS_T) (a_Clock : Int) (a_Cells : List (List Int)) (k : (Int) → (List (List Int)) → PM.R) : PM.R :=
  c_201 a_Cells (fun r1 =>
    k a_Clock r1)
noncomputable def laws_toMem (A : PM.Prims) : laws_toMem_T := laws_toMem_f A (laws_toWordS A)
noncomputable def laws_toMem_L (A : PM.Prims) (c_201 : laws_toWordS_T) (n : Nat) : PM.Lam := fun cur σ K =>
  match cur, σ, K with
  | _, _, _ => none
noncomputable def laws_toMem_E (A : PM.Prims) (c_201 : laws_toWordS_T) : PM.Env := ⟨[(201, ⟨[], laws_toWordS_w c_201, none⟩)], [], [], [(0, [1, 2]), (1, [1, 2, 3]), (2, [1, 2, 3]), (3, [2, 3]), (4, [2])], laws_toMem_L A c_201 A.fuel⟩
theorem laws_toMem_ok (A : PM.Prims) (c_201 : laws_toWordS_T) (a_Clock : Int) (a_Cells : List (List Int)) (k : PM.V → PM.R) : PM.pfun A cx [] (laws_toMem_E A c_201) Go.Proofs.Try.f112 [.agg [.int .i64 a_Clock, .arr (.vecs 354 3 a_Cells)]] k = laws_toMem_f A c_201 a_Clock a_Cells (fun r0_Clock r0_Cells => k (.agg [.int .i64 r0_Clock, .arr (.vecs 287 3 r0_Cells)])) := by kernel_rfl

theorem laws_toMem_fn : PM.FnIs Try.prog 112 Try.f112 := .of Try.func112 (by kernel_rfl) (by kernel_rfl)
theorem laws_toMem_g : PM.GOk Try.prog cx 112 ⟨[], laws_toMem_w (laws_toMem PM.std), none⟩ := by
  refine ⟨laws_toMem_fn.enter, fun _ ds k r h => ?_, fun hm => absurd rfl hm, fun _ e => (by cases e)⟩
  change laws_toMem_w (laws_toMem PM.std) ds k = some r at h
  unfold laws_toMem_w at h
  split at h
  · exact PM.pfun_ok (E := laws_toMem_E PM.std (laws_toWordS PM.std)) (L := fun n => laws_toMem_L PM.std (laws_toWordS PM.std) n) (N := PM.std.fuel) cx_ok (.cons laws_toWordS_g .nil) mixed .nil laws_toMem_fn (by kernel_rfl) ⟨rfl, fun _ _ _ => rfl, fun n cur σ K r h => by cases h⟩
      ((laws_toMem_ok PM.std (laws_toWordS PM.std) _ _ k).trans h)
  · cases h

abbrev laws_toCommit_T := (Int) → (Int) → (Int) → (Int) → (Int) → (List (List Int)) → (List Int) → ((Int) → (Int) → (Int) → (Int) → (Int) → (List (List Int)) → (List Int) → PM.R) → PM.R
noncomputable def laws_toCommit_w (c : laws_toCommit_T) (ds : List PM.V) (k : PM.V → PM.R) : PM.R :=
  match ds with
  | [.agg [.int .i64 a_Who, .int .i64 a_Rv, .int .i64 a_Phase, .int .i64 a_At, .int .i64 a_Wv, .arr (.vecs 297 2 a_Puts), .arr (.ints 3 .i64 a_Reads)]] => c a_Who a_Rv a_Phase a_At a_Wv a_Puts a_Reads (fun r0_Who r0_Rv r0_Phase r0_At r0_Wv r0_Puts r0_Reads => k (.agg [.int .i64 r0_Who, .int .i64 r0_Rv, .int .i64 r0_Phase, .int .i64 r0_At, .int .i64 r0_Wv, .arr (.vecs 161 2 r0_Puts), .arr (.ints 3 .i64 r0_Reads)]))
  | _ => none
noncomputable def laws_toCommit_f (A : PM.Prims) (c_37 : laws_toIntS_T) (c_150 : laws_toRowS_T) (a_Who : Int) (a_Rv : Int) (a_Phase : Int) (a_At : Int) (a_Wv : Int) (a_Puts : List (List Int)) (a_Reads : List Int) (k : (Int) → (Int) → (Int) → (Int) → (Int) → (List (List Int)) → (List Int) → PM.R) : PM.R :=
  c_150 a_Puts (fun r1 =>
    c_37 a_Reads (fun r2 =>
      k a_Who a_Rv a_Phase a_At a_Wv r1 r2))
noncomputable def laws_toCommit (A : PM.Prims) : laws_toCommit_T := laws_toCommit_f A (laws_toIntS A) (laws_toRowS A)
noncomputable def laws_toCommit_L (A : PM.Prims) (c_37 : laws_toIntS_T) (c_150 : laws_toRowS_T) (n : Nat) : PM.Lam := fun cur σ K =>
  match cur, σ, K with
  | _, _, _ => none
noncomputable def laws_toCommit_E (A : PM.Prims) (c_37 : laws_toIntS_T) (c_150 : laws_toRowS_T) : PM.Env := ⟨[(37, ⟨[], laws_toIntS_w c_37, none⟩), (150, ⟨[], laws_toRowS_w c_150, none⟩)], [], [], [(0, [1, 2]), (1, [1, 2, 3]), (2, [1, 2, 3]), (3, [1, 2, 3]), (4, [1, 2, 3]), (5, [1, 2, 3]), (6, [1, 2, 3]), (7, [1, 2, 3]), (8, [2, 3]), (9, [2])], laws_toCommit_L A c_37 c_150 A.fuel⟩
theorem laws_toCommit_ok (A : PM.Prims) (c_37 : laws_toIntS_T) (c_150 : laws_toRowS_T) (a_Who : Int) (a_Rv : Int) (a_Phase : Int) (a_At : Int) (a_Wv : Int) (a_Puts : List (List Int)) (a_Reads : List Int) (k : PM.V → PM.R) : PM.pfun A cx [] (laws_toCommit_E A c_37 c_150) Go.Proofs.Try.f270 [.agg [.int .i64 a_Who, .int .i64 a_Rv, .int .i64 a_Phase, .int .i64 a_At, .int .i64 a_Wv, .arr (.vecs 297 2 a_Puts), .arr (.ints 3 .i64 a_Reads)]] k = laws_toCommit_f A c_37 c_150 a_Who a_Rv a_Phase a_At a_Wv a_Puts a_Reads (fun r0_Who r0_Rv r0_Phase r0_At r0_Wv r0_Puts r0_Reads => k (.agg [.int .i64 r0_Who, .int .i64 r0_Rv, .int .i64 r0_Phase, .int .i64 r0_At, .int .i64 r0_Wv, .arr (.vecs 161 2 r0_Puts), .arr (.ints 3 .i64 r0_Reads)])) := by kernel_rfl

theorem laws_toCommit_fn : PM.FnIs Try.prog 270 Try.f270 := .of Try.func270 (by kernel_rfl) (by kernel_rfl)
theorem laws_toCommit_g : PM.GOk Try.prog cx 270 ⟨[], laws_toCommit_w (laws_toCommit PM.std), none⟩ := by
  refine ⟨laws_toCommit_fn.enter, fun _ ds k r h => ?_, fun hm => absurd rfl hm, fun _ e => (by cases e)⟩
  change laws_toCommit_w (laws_toCommit PM.std) ds k = some r at h
  unfold laws_toCommit_w at h
  split at h
  · exact PM.pfun_ok (E := laws_toCommit_E PM.std (laws_toIntS PM.std) (laws_toRowS PM.std)) (L := fun n => laws_toCommit_L PM.std (laws_toIntS PM.std) (laws_toRowS PM.std) n) (N := PM.std.fuel) cx_ok (.cons laws_toIntS_g (.cons laws_toRowS_g .nil)) mixed .nil laws_toCommit_fn (by kernel_rfl) ⟨rfl, fun _ _ _ => rfl, fun n cur σ K r h => by cases h⟩
      ((laws_toCommit_ok PM.std (laws_toIntS PM.std) (laws_toRowS PM.std) _ _ _ _ _ _ _ k).trans h)
  · cases h

abbrev laws_toJobRun_T := (Int) → (Int) → (Int) → (Int) → (Int) → (List (List Int)) → (Bool) → (Int) → (Int) → (Int) → (Int) → (Int) → (Int) → (Int) → (Int) → (Int) → (List (List Int)) → (List Int) → ((Int) → (Int) → (Int) → (Int) → (Int) → (List (List Int)) → (Bool) → (Int) → (Int) → (Int) → (Int) → (Int) → (Int) → (Int) → (Int) → (Int) → (List (List Int)) → (List Int) → PM.R) → PM.R
noncomputable def laws_toJobRun_w (c : laws_toJobRun_T) (ds : List PM.V) (k : PM.V → PM.R) : PM.R :=
  match ds with
  | [.agg [.int .i64 a_Phase, .int .i64 a_Tries, .int .i64 a_Rv, .int .i64 a_At, .int .i64 a_Stamp, .arr (.vecs 297 2 a_Seen), .bool a_Busy, .int .i64 a_Probe_Cell, .int .i64 a_Probe_Phase, .int .i64 a_Probe_Ver, .int .i64 a_Probe_Val, .int .i64 a_Commit_Who, .int .i64 a_Commit_Rv, .int .i64 a_Commit_Phase, .int .i64 a_Commit_At, .int .i64 a_Commit_Wv, .arr (.vecs 297 2 a_Commit_Puts), .arr (.ints 3 .i64 a_Commit_Reads)]] => c a_Phase a_Tries a_Rv a_At a_Stamp a_Seen a_Busy a_Probe_Cell a_Probe_Phase a_Probe_Ver a_Probe_Val a_Commit_Who a_Commit_Rv a_Commit_Phase a_Commit_At a_Commit_Wv a_Commit_Puts a_Commit_Reads (fun r0_Phase r0_Tries r0_Rv r0_At r0_Stamp r0_Seen r0_Busy r0_Probe_Cell r0_Probe_Phase r0_Probe_Ver r0_Probe_Val r0_Commit_Who r0_Commit_Rv r0_Commit_Phase r0_Commit_At r0_Commit_Wv r0_Commit_Puts r0_Commit_Reads => k (.agg [.int .i64 r0_Phase, .int .i64 r0_Tries, .int .i64 r0_Rv, .int .i64 r0_At, .int .i64 r0_Stamp, .arr (.vecs 161 2 r0_Seen), .bool r0_Busy, .int .i64 r0_Probe_Cell, .int .i64 r0_Probe_Phase, .int .i64 r0_Probe_Ver, .int .i64 r0_Probe_Val, .int .i64 r0_Commit_Who, .int .i64 r0_Commit_Rv, .int .i64 r0_Commit_Phase, .int .i64 r0_Commit_At, .int .i64 r0_Commit_Wv, .arr (.vecs 161 2 r0_Commit_Puts), .arr (.ints 3 .i64 r0_Commit_Reads)]))
  | _ => none
noncomputable def laws_toJobRun_f (A : PM.Prims) (c_150 : laws_toRowS_T) (c_269 : laws_toProbe_T) (c_270 : laws_toCommit_T) (a_Phase : Int) (a_Tries : Int) (a_Rv : Int) (a_At : Int) (a_Stamp : Int) (a_Seen : List (List Int)) (a_Busy : Bool) (a_Probe_Cell : Int) (a_Probe_Phase : Int) (a_Probe_Ver : Int) (a_Probe_Val : Int) (a_Commit_Who : Int) (a_Commit_Rv : Int) (a_Commit_Phase : Int) (a_Commit_At : Int) (a_Commit_Wv : Int) (a_Commit_Puts : List (List Int)) (a_Commit_Reads : List Int) (k : (Int) → (Int) → (Int) → (Int) → (Int) → (List (List Int)) → (Bool) → (Int) → (Int) → (Int) → (Int) → (Int) → (Int) → (Int) → (Int) → (Int) → (List (List Int)) → (List Int) → PM.R) : PM.R :=
  c_150 a_Seen (fun r1 =>
    c_269 a_Probe_Cell a_Probe_Phase a_Probe_Ver a_Probe_Val (fun r2 r3 r4 r5 =>
      c_270 a_Commit_Who a_Commit_Rv a_Commit_Phase a_Commit_At a_Commit_Wv a_Commit_Puts a_Commit_Reads (fun r6 r7 r8 r9 r10 r11 r12 =>
        k a_Phase a_Tries a_Rv a_At a_Stamp r1 a_Busy r2 r3 r4 r5 r6 r7 r8 r9 r10 r11 r12)))
noncomputable def laws_toJobRun (A : PM.Prims) : laws_toJobRun_T := laws_toJobRun_f A (laws_toRowS A) (laws_toProbe A) (laws_toCommit A)
noncomputable def laws_toJobRun_L (A : PM.Prims) (c_150 : laws_toRowS_T) (c_269 : laws_toProbe_T) (c_270 : laws_toCommit_T) (n : Nat) : PM.Lam := fun cur σ K =>
  match cur, σ, K with
  | _, _, _ => none
noncomputable def laws_toJobRun_E (A : PM.Prims) (c_150 : laws_toRowS_T) (c_269 : laws_toProbe_T) (c_270 : laws_toCommit_T) : PM.Env := ⟨[(150, ⟨[], laws_toRowS_w c_150, none⟩), (269, ⟨[], laws_toProbe_w c_269, none⟩), (270, ⟨[], laws_toCommit_w c_270, none⟩)], [], [], [(0, [1, 2]), (1, [1, 2, 3]), (2, [1, 2, 3]), (3, [1, 2, 3]), (4, [1, 2, 3]), (5, [1, 2, 3]), (6, [1, 2, 3]), (7, [1, 2, 3]), (8, [1, 2, 3]), (9, [1, 2, 3]), (10, [2, 3]), (11, [2])], laws_toJobRun_L A c_150 c_269 c_270 A.fuel⟩
theorem laws_toJobRun_ok (A : PM.Prims) (c_150 : laws_toRowS_T) (c_269 : laws_toProbe_T) (c_270 : laws_toCommit_T) (a_Phase : Int) (a_Tries : Int) (a_Rv : Int) (a_At : Int) (a_Stamp : Int) (a_Seen : List (List Int)) (a_Busy : Bool) (a_Probe_Cell : Int) (a_Probe_Phase : Int) (a_Probe_Ver : Int) (a_Probe_Val : Int) (a_Commit_Who : Int) (a_Commit_Rv : Int) (a_Commit_Phase : Int) (a_Commit_At : Int) (a_Commit_Wv : Int) (a_Commit_Puts : List (List Int)) (a_Commit_Reads : List Int) (k : PM.V → PM.R) : PM.pfun A cx [] (laws_toJobRun_E A c_150 c_269 c_270) Go.Proofs.Try.f209 [.agg [.int .i64 a_Phase, .int .i64 a_Tries, .int .i64 a_Rv, .int .i64 a_At, .int .i64 a_Stamp, .arr (.vecs 297 2 a_Seen), .bool a_Busy, .int .i64 a_Probe_Cell, .int .i64 a_Probe_Phase, .int .i64 a_Probe_Ver, .int .i64 a_Probe_Val, .int .i64 a_Commit_Who, .int .i64 a_Commit_Rv, .int .i64 a_Commit_Phase, .int .i64 a_Commit_At, .int .i64 a_Commit_Wv, .arr (.vecs 297 2 a_Commit_Puts), .arr (.ints 3 .i64 a_Commit_Reads)]] k = laws_toJobRun_f A c_150 c_269 c_270 a_Phase a_Tries a_Rv a_At a_Stamp a_Seen a_Busy a_Probe_Cell a_Probe_Phase a_Probe_Ver a_Probe_Val a_Commit_Who a_Commit_Rv a_Commit_Phase a_Commit_At a_Commit_Wv a_Commit_Puts a_Commit_Reads (fun r0_Phase r0_Tries r0_Rv r0_At r0_Stamp r0_Seen r0_Busy r0_Probe_Cell r0_Probe_Phase r0_Probe_Ver r0_Probe_Val r0_Commit_Who r0_Commit_Rv r0_Commit_Phase r0_Commit_At r0_Commit_Wv r0_Commit_Puts r0_Commit_Reads => k (.agg [.int .i64 r0_Phase, .int .i64 r0_Tries, .int .i64 r0_Rv, .int .i64 r0_At, .int .i64 r0_Stamp, .arr (.vecs 161 2 r0_Seen), .bool r0_Busy, .int .i64 r0_Probe_Cell, .int .i64 r0_Probe_Phase, .int .i64 r0_Probe_Ver, .int .i64 r0_Probe_Val, .int .i64 r0_Commit_Who, .int .i64 r0_Commit_Rv, .int .i64 r0_Commit_Phase, .int .i64 r0_Commit_At, .int .i64 r0_Commit_Wv, .arr (.vecs 161 2 r0_Commit_Puts), .arr (.ints 3 .i64 r0_Commit_Reads)])) := by kernel_rfl

theorem laws_toJobRun_fn : PM.FnIs Try.prog 209 Try.f209 := .of Try.func209 (by kernel_rfl) (by kernel_rfl)
theorem laws_toJobRun_g : PM.GOk Try.prog cx 209 ⟨[], laws_toJobRun_w (laws_toJobRun PM.std), none⟩ := by
  refine ⟨laws_toJobRun_fn.enter, fun _ ds k r h => ?_, fun hm => absurd rfl hm, fun _ e => (by cases e)⟩
  change laws_toJobRun_w (laws_toJobRun PM.std) ds k = some r at h
  unfold laws_toJobRun_w at h
  split at h
  · exact PM.pfun_ok (E := laws_toJobRun_E PM.std (laws_toRowS PM.std) (laws_toProbe PM.std) (laws_toCommit PM.std)) (L := fun n => laws_toJobRun_L PM.std (laws_toRowS PM.std) (laws_toProbe PM.std) (laws_toCommit PM.std) n) (N := PM.std.fuel) cx_ok (.cons laws_toRowS_g (.cons laws_toProbe_g (.cons laws_toCommit_g .nil))) mixed .nil laws_toJobRun_fn (by kernel_rfl) ⟨rfl, fun _ _ _ => rfl, fun n cur σ K r h => by cases h⟩
      ((laws_toJobRun_ok PM.std (laws_toRowS PM.std) (laws_toProbe PM.std) (laws_toCommit PM.std) _ _ _ _ _ _ _ _ _ _ _ _ _ _ _ _ _ _ k).trans h)
  · cases h

abbrev laws_toJobRunS_T := (List (List PM.C)) → ((List (List PM.C)) → PM.R) → PM.R
noncomputable def laws_toJobRunS_w (c : laws_toJobRunS_T) (ds : List PM.V) (k : PM.V → PM.R) : PM.R :=
  match ds with
  | [.arr (.rows 285 a)] => c a (fun r0 => k (.arr (.rows 189 r0)))
  | _ => none
noncomputable def laws_toJobRunS_l0 (A : PM.Prims) (c_209 : laws_toJobRun_T) : Nat → (List (List C)) → (Int) → (List (List C)) → ((List (List C)) → PM.R) → PM.R
  | 0, _, _, _, _ => none
  | n + 1, a1, i2, o03, kx0_0 =>
    bif (A.lt i2 (A.rlen a1)) then
      bif (A.inb i2 (A.rlen a1)) then
        c_209 (A.rint a1 i2 0) (A.rint a1 i2 1) (A.rint a1 i2 2) (A.rint a1 i2 3) (A.rint a1 i2 4) (A.rsv 2 a1 i2 5) (A.rbool a1 i2 6) (A.rint a1 i2 7) (A.rint a1 i2 8) (A.rint a1 i2 9) (A.rint a1 i2 10) (A.rint a1 i2 11) (A.rint a1 i2 12) (A.rint a1 i2 13) (A.rint a1 i2 14) (A.rint a1 i2 15) (A.rsv 2 a1 i2 16) (A.rsi a1 i2 17) (fun r4 r5 r6 r7 r8 r9 r10 r11 r12 r13 r14 r15 r16 r17 r18 r19 r20 r21 =>
          bif (A.inb i2 (A.rlen o03)) then
            laws_toJobRunS_l0 A c_209 n a1 (A.add .i64 i2 1) (A.rput o03 i2 [(.i r4), (.i r5), (.i r6), (.i r7), (.i r8), (.s (A.ofv r9)), (.b r10), (.i r11), (.i r12), (.i r13), (.i r14), (.i r15), (.i r16), (.i r17), (.i r18), (.i r19), (.s (A.ofv r20)), (.s (A.ofi r21))]) kx0_0
          else
            none)
      else
        none
    else
      kx0_0 o03
noncomputable def laws_toJobRunS_f (A : PM.Prims) (c_209 : laws_toJobRun_T) (a : List (List PM.C)) (k : (List (List PM.C)) → PM.R) : PM.R :=
  bif (A.mkOk (A.rlen a)) then
    bif (A.le (A.rlen a) (A.rlen a)) then
      bif (A.mkOk (A.rlen a)) then
        laws_toJobRunS_l0 A c_209 A.fuel a 0 (A.rzero [(.i 0), (.i 0), (.i 0), (.i 0), (.i 0), (.s (A.ofv [])), (.b false), (.i 0), (.i 0), (.i 0), (.i 0), (.i 0), (.i 0), (.i 0), (.i 0), (.i 0), (.s (A.ofv [])), (.s (A.ofi []))] (A.rlen a)) (fun o02223 =>
          k o02223)
      else
        none
    else
      none
  else
    none
noncomputable def laws_toJobRunS (A : PM.Prims) : laws_toJobRunS_T := laws_toJobRunS_f A (laws_toJobRun A)
noncomputable def laws_toJobRunS_L (A : PM.Prims) (c_209 : laws_toJobRun_T) (n : Nat) : PM.Lam := fun cur σ K =>
  match cur, σ, K with
  | 0, ⟨[(0, .arr (.rows 285 a1)), (3, .sref 0), (4, .int .i64 i2)], [(0, .arr true (.rows 189 o03))]⟩, K => laws_toJobRunS_l0 A c_209 n a1 i2 o03 (fun o022 => K (.exit 0) ⟨[(3, .sref 0)], [(0, .arr true (.rows 189 o022))]⟩)
  | _, _, _ => none
noncomputable def laws_toJobRunS_E (A : PM.Prims) (c_209 : laws_toJobRun_T) : PM.Env := ⟨[(209, ⟨[], laws_toJobRun_w c_209, none⟩)], [], [(0, [0, 3, 4], [2, 3])], [(0, [0]), (1, [0, 3]), (2, [0, 3, 4]), (3, [0, 3, 4, 11]), (4, [0, 3, 4]), (5, [0, 3, 4]), (6, [2])], laws_toJobRunS_L A c_209 A.fuel⟩
theorem laws_toJobRunS_l0_ok (A : PM.Prims) (c_209 : laws_toJobRun_T) (n : Nat) (a1 : List (List C)) (i2 : Int) (o03 : List (List C)) (K : Go.Exit → PM.S → PM.R) : laws_toJobRunS_L A c_209 (n + 1) 0 ⟨[(0, .arr (.rows 285 a1)), (3, .sref 0), (4, .int .i64 i2)], [(0, .arr true (.rows 189 o03))]⟩ K = PM.roundF A cx (PM.runD A cx (laws_toJobRunS_E A c_209).inl (laws_toJobRunS_E A c_209).Γ 3) (laws_toJobRunS_E A c_209) (laws_toJobRunS_L A c_209 n) 0 Go.Proofs.Try.f126 ⟨[(0, .arr (.rows 285 a1)), (3, .sref 0), (4, .int .i64 i2)], [(0, .arr true (.rows 189 o03))]⟩ K := by kernel_rfl
theorem laws_toJobRunS_ok (A : PM.Prims) (c_209 : laws_toJobRun_T) (a : List (List PM.C)) (k : PM.V → PM.R) : PM.pfun A cx [] (laws_toJobRunS_E A c_209) Go.Proofs.Try.f126 [.arr (.rows 285 a)] k = laws_toJobRunS_f A c_209 a (fun r0 => k (.arr (.rows 189 r0))) := by kernel_rfl

theorem laws_toJobRunS_fn : PM.FnIs Try.prog 126 Try.f126 := .of Try.func126 (by kernel_rfl) (by kernel_rfl)
theorem laws_toJobRunS_g : PM.GOk Try.prog cx 126 ⟨[], laws_toJobRunS_w (laws_toJobRunS PM.std), none⟩ := by
  refine ⟨laws_toJobRunS_fn.enter, fun _ ds k r h => ?_, fun hm => absurd rfl hm, fun _ e => (by cases e)⟩
  change laws_toJobRunS_w (laws_toJobRunS PM.std) ds k = some r at h
  unfold laws_toJobRunS_w at h
  split at h
  · exact PM.pfun_ok (E := laws_toJobRunS_E PM.std (laws_toJobRun PM.std)) (L := fun n => laws_toJobRunS_L PM.std (laws_toJobRun PM.std) n) (N := PM.std.fuel) cx_ok (.cons laws_toJobRun_g .nil) mixed .nil laws_toJobRunS_fn (by kernel_rfl) ⟨rfl, fun cur σ K => by
      dsimp only [laws_toJobRunS_L]
      split <;> rfl, fun n cur σ K r h => by
      dsimp only [laws_toJobRunS_L] at h
      split at h
      · exact (laws_toJobRunS_l0_ok PM.std (laws_toJobRun PM.std) n _ _ _ K).symm.trans h
      · cases h⟩
      ((laws_toJobRunS_ok PM.std (laws_toJobRun PM.std) _ k).trans h)
  · cases h

abbrev laws_toWrote_T := (Int) → (Int) → (List (List Int)) → ((Int) → (Int) → (List (List Int)) → PM.R) → PM.R
noncomputable def laws_toWrote_w (c : laws_toWrote_T) (ds : List PM.V) (k : PM.V → PM.R) : PM.R :=
  match ds with
  | [.agg [.int .i64 a_Stamp, .int .i64 a_Who, .arr (.vecs 297 2 a_Puts)]] => c a_Stamp a_Who a_Puts (fun r0_Stamp r0_Who r0_Puts => k (.agg [.int .i64 r0_Stamp, .int .i64 r0_Who, .arr (.vecs 161 2 r0_Puts)]))
  | _ => none
noncomputable def laws_toWrote_f (A : PM.Prims) (c_150 : laws_toRowS_T) (a_Stamp : Int) (a_Who : Int) (a_Puts : List (List Int)) (k : (Int) → (Int) → (List (List Int)) → PM.R) : PM.R :=
  c_150 a_Puts (fun r1 =>
    k a_Stamp a_Who r1)
noncomputable def laws_toWrote (A : PM.Prims) : laws_toWrote_T := laws_toWrote_f A (laws_toRowS A)
noncomputable def laws_toWrote_L (A : PM.Prims) (c_150 : laws_toRowS_T) (n : Nat) : PM.Lam := fun cur σ K =>
  match cur, σ, K with
  | _, _, _ => none
noncomputable def laws_toWrote_E (A : PM.Prims) (c_150 : laws_toRowS_T) : PM.Env := ⟨[(150, ⟨[], laws_toRowS_w c_150, none⟩)], [], [], [(0, [1, 2]), (1, [1, 2, 3]), (2, [1, 2, 3]), (3, [1, 2, 3]), (4, [2, 3]), (5, [2])], laws_toWrote_L A c_150 A.fuel⟩
theorem laws_toWrote_ok (A : PM.Prims) (c_150 : laws_toRowS_T) (a_Stamp : Int) (a_Who : Int) (a_Puts : List (List Int)) (k : PM.V → PM.R) : PM.pfun A cx [] (laws_toWrote_E A c_150) Go.Proofs.Try.f133 [.agg [.int .i64 a_Stamp, .int .i64 a_Who, .arr (.vecs 297 2 a_Puts)]] k = laws_toWrote_f A c_150 a_Stamp a_Who a_Puts (fun r0_Stamp r0_Who r0_Puts => k (.agg [.int .i64 r0_Stamp, .int .i64 r0_Who, .arr (.vecs 161 2 r0_Puts)])) := by kernel_rfl

theorem laws_toWrote_fn : PM.FnIs Try.prog 133 Try.f133 := .of Try.func133 (by kernel_rfl) (by kernel_rfl)
theorem laws_toWrote_g : PM.GOk Try.prog cx 133 ⟨[], laws_toWrote_w (laws_toWrote PM.std), none⟩ := by
  refine ⟨laws_toWrote_fn.enter, fun _ ds k r h => ?_, fun hm => absurd rfl hm, fun _ e => (by cases e)⟩
  change laws_toWrote_w (laws_toWrote PM.std) ds k = some r at h
  unfold laws_toWrote_w at h
  split at h
  · exact PM.pfun_ok (E := laws_toWrote_E PM.std (laws_toRowS PM.std)) (L := fun n => laws_toWrote_L PM.std (laws_toRowS PM.std) n) (N := PM.std.fuel) cx_ok (.cons laws_toRowS_g .nil) mixed .nil laws_toWrote_fn (by kernel_rfl) ⟨rfl, fun _ _ _ => rfl, fun n cur σ K r h => by cases h⟩
      ((laws_toWrote_ok PM.std (laws_toRowS PM.std) _ _ _ k).trans h)
  · cases h

abbrev laws_toWroteS_T := (List (List PM.C)) → ((List (List PM.C)) → PM.R) → PM.R
noncomputable def laws_toWroteS_w (c : laws_toWroteS_T) (ds : List PM.V) (k : PM.V → PM.R) : PM.R :=
  match ds with
  | [.arr (.rows 195 a)] => c a (fun r0 => k (.arr (.rows 33 r0)))
  | _ => none
noncomputable def laws_toWroteS_l0 (A : PM.Prims) (c_133 : laws_toWrote_T) : Nat → (List (List C)) → (Int) → (List (List C)) → ((List (List C)) → PM.R) → PM.R
  | 0, _, _, _, _ => none
  | n + 1, a1, i2, o03, kx0_0 =>
    bif (A.lt i2 (A.rlen a1)) then
      bif (A.inb i2 (A.rlen a1)) then
        c_133 (A.rint a1 i2 0) (A.rint a1 i2 1) (A.rsv 2 a1 i2 2) (fun r4 r5 r6 =>
          bif (A.inb i2 (A.rlen o03)) then
            laws_toWroteS_l0 A c_133 n a1 (A.add .i64 i2 1) (A.rput o03 i2 [(.i r4), (.i r5), (.s (A.ofv r6))]) kx0_0
          else
            none)
      else
        none
    else
      kx0_0 o03
noncomputable def laws_toWroteS_f (A : PM.Prims) (c_133 : laws_toWrote_T) (a : List (List PM.C)) (k : (List (List PM.C)) → PM.R) : PM.R :=
  bif (A.mkOk (A.rlen a)) then
    bif (A.le (A.rlen a) (A.rlen a)) then
      bif (A.mkOk (A.rlen a)) then
        laws_toWroteS_l0 A c_133 A.fuel a 0 (A.rzero [(.i 0), (.i 0), (.s (A.ofv []))] (A.rlen a)) (fun o078 =>
          k o078)
      else
        none
    else
      none
  else
    none
noncomputable def laws_toWroteS (A : PM.Prims) : laws_toWroteS_T := laws_toWroteS_f A (laws_toWrote A)
noncomputable def laws_toWroteS_L (A : PM.Prims) (c_133 : laws_toWrote_T) (n : Nat) : PM.Lam := fun cur σ K =>
  match cur, σ, K with
  | 0, ⟨[(0, .arr (.rows 195 a1)), (3, .sref 0), (4, .int .i64 i2)], [(0, .arr true (.rows 33 o03))]⟩, K => laws_toWroteS_l0 A c_133 n a1 i2 o03 (fun o07 => K (.exit 0) ⟨[(3, .sref 0)], [(0, .arr true (.rows 33 o07))]⟩)
  | _, _, _ => none
noncomputable def laws_toWroteS_E (A : PM.Prims) (c_133 : laws_toWrote_T) : PM.Env := ⟨[(133, ⟨[], laws_toWrote_w c_133, none⟩)], [], [(0, [0, 3, 4], [2, 3])], [(0, [0]), (1, [0, 3]), (2, [0, 3, 4]), (3, [0, 3, 4, 11]), (4, [0, 3, 4]), (5, [0, 3, 4]), (6, [2])], laws_toWroteS_L A c_133 A.fuel⟩
theorem laws_toWroteS_l0_ok (A : PM.Prims) (c_133 : laws_toWrote_T) (n : Nat) (a1 : List (List C)) (i2 : Int) (o03 : List (List C)) (K : Go.Exit → PM.S → PM.R) : laws_toWroteS_L A c_133 (n + 1) 0 ⟨[(0, .arr (.rows 195 a1)), (3, .sref 0), (4, .int .i64 i2)], [(0, .arr true (.rows 33 o03))]⟩ K = PM.roundF A cx (PM.runD A cx (laws_toWroteS_E A c_133).inl (laws_toWroteS_E A c_133).Γ 3) (laws_toWroteS_E A c_133) (laws_toWroteS_L A c_133 n) 0 Go.Proofs.Try.f43 ⟨[(0, .arr (.rows 195 a1)), (3, .sref 0), (4, .int .i64 i2)], [(0, .arr true (.rows 33 o03))]⟩ K := by kernel_rfl
theorem laws_toWroteS_ok (A : PM.Prims) (c_133 : laws_toWrote_T) (a : List (List PM.C)) (k : PM.V → PM.R) : PM.pfun A cx [] (laws_toWroteS_E A c_133) Go.Proofs.Try.f43 [.arr (.rows 195 a)] k = laws_toWroteS_f A c_133 a (fun r0 => k (.arr (.rows 33 r0))) := by kernel_rfl

theorem laws_toWroteS_fn : PM.FnIs Try.prog 43 Try.f43 := .of Try.func43 (by kernel_rfl) (by kernel_rfl)
theorem laws_toWroteS_g : PM.GOk Try.prog cx 43 ⟨[], laws_toWroteS_w (laws_toWroteS PM.std), none⟩ := by
  refine ⟨laws_toWroteS_fn.enter, fun _ ds k r h => ?_, fun hm => absurd rfl hm, fun _ e => (by cases e)⟩
  change laws_toWroteS_w (laws_toWroteS PM.std) ds k = some r at h
  unfold laws_toWroteS_w at h
  split at h
  · exact PM.pfun_ok (E := laws_toWroteS_E PM.std (laws_toWrote PM.std)) (L := fun n => laws_toWroteS_L PM.std (laws_toWrote PM.std) n) (N := PM.std.fuel) cx_ok (.cons laws_toWrote_g .nil) mixed .nil laws_toWroteS_fn (by kernel_rfl) ⟨rfl, fun cur σ K => by
      dsimp only [laws_toWroteS_L]
      split <;> rfl, fun n cur σ K r h => by
      dsimp only [laws_toWroteS_L] at h
      split at h
      · exact (laws_toWroteS_l0_ok PM.std (laws_toWrote PM.std) n _ _ _ K).symm.trans h
      · cases h⟩
      ((laws_toWroteS_ok PM.std (laws_toWrote PM.std) _ k).trans h)
  · cases h

abbrev laws_toDuel_T := (Int) → (List (List Int)) → (List (List PM.C)) → (List (List PM.C)) → ((Int) → (List (List Int)) → (List (List PM.C)) → (List (List PM.C)) → PM.R) → PM.R
noncomputable def laws_toDuel_w (c : laws_toDuel_T) (ds : List PM.V) (k : PM.V → PM.R) : PM.R :=
  match ds with
  | [.agg [.int .i64 a_Mem_Clock, .arr (.vecs 354 3 a_Mem_Cells), .arr (.rows 285 a_Jobs), .arr (.rows 195 a_Hist)]] => c a_Mem_Clock a_Mem_Cells a_Jobs a_Hist (fun r0_Mem_Clock r0_Mem_Cells r0_Jobs r0_Hist => k (.agg [.int .i64 r0_Mem_Clock, .arr (.vecs 287 3 r0_Mem_Cells), .arr (.rows 189 r0_Jobs), .arr (.rows 33 r0_Hist)]))
  | _ => none
noncomputable def laws_toDuel_f (A : PM.Prims) (c_112 : laws_toMem_T) (c_43 : laws_toWroteS_T) (c_126 : laws_toJobRunS_T) (a_Mem_Clock : Int) (a_Mem_Cells : List (List Int)) (a_Jobs : List (List PM.C)) (a_Hist : List (List PM.C)) (k : (Int) → (List (List Int)) → (List (List PM.C)) → (List (List PM.C)) → PM.R) : PM.R :=
  c_112 a_Mem_Clock a_Mem_Cells (fun r1 r2 =>
    c_126 a_Jobs (fun r3 =>
      c_43 a_Hist (fun r4 =>
        k r1 r2 r3 r4)))
noncomputable def laws_toDuel (A : PM.Prims) : laws_toDuel_T := laws_toDuel_f A (laws_toMem A) (laws_toWroteS A) (laws_toJobRunS A)
noncomputable def laws_toDuel_L (A : PM.Prims) (c_112 : laws_toMem_T) (c_43 : laws_toWroteS_T) (c_126 : laws_toJobRunS_T) (n : Nat) : PM.Lam := fun cur σ K =>
  match cur, σ, K with
  | _, _, _ => none
noncomputable def laws_toDuel_E (A : PM.Prims) (c_112 : laws_toMem_T) (c_43 : laws_toWroteS_T) (c_126 : laws_toJobRunS_T) : PM.Env := ⟨[(112, ⟨[], laws_toMem_w c_112, none⟩), (43, ⟨[], laws_toWroteS_w c_43, none⟩), (126, ⟨[], laws_toJobRunS_w c_126, none⟩)], [], [], [(0, [1, 2]), (1, [1, 2, 3]), (2, [1, 2, 3]), (3, [1, 2, 3]), (4, [2, 3]), (5, [2])], laws_toDuel_L A c_112 c_43 c_126 A.fuel⟩
theorem laws_toDuel_ok (A : PM.Prims) (c_112 : laws_toMem_T) (c_43 : laws_toWroteS_T) (c_126 : laws_toJobRunS_T) (a_Mem_Clock : Int) (a_Mem_Cells : List (List Int)) (a_Jobs : List (List PM.C)) (a_Hist : List (List PM.C)) (k : PM.V → PM.R) : PM.pfun A cx [] (laws_toDuel_E A c_112 c_43 c_126) Go.Proofs.Try.f38 [.agg [.int .i64 a_Mem_Clock, .arr (.vecs 354 3 a_Mem_Cells), .arr (.rows 285 a_Jobs), .arr (.rows 195 a_Hist)]] k = laws_toDuel_f A c_112 c_43 c_126 a_Mem_Clock a_Mem_Cells a_Jobs a_Hist (fun r0_Mem_Clock r0_Mem_Cells r0_Jobs r0_Hist => k (.agg [.int .i64 r0_Mem_Clock, .arr (.vecs 287 3 r0_Mem_Cells), .arr (.rows 189 r0_Jobs), .arr (.rows 33 r0_Hist)])) := by kernel_rfl

theorem laws_toDuel_fn : PM.FnIs Try.prog 38 Try.f38 := .of Try.func38 (by kernel_rfl) (by kernel_rfl)
theorem laws_toDuel_g : PM.GOk Try.prog cx 38 ⟨[], laws_toDuel_w (laws_toDuel PM.std), none⟩ := by
  refine ⟨laws_toDuel_fn.enter, fun _ ds k r h => ?_, fun hm => absurd rfl hm, fun _ e => (by cases e)⟩
  change laws_toDuel_w (laws_toDuel PM.std) ds k = some r at h
  unfold laws_toDuel_w at h
  split at h
  · exact PM.pfun_ok (E := laws_toDuel_E PM.std (laws_toMem PM.std) (laws_toWroteS PM.std) (laws_toJobRunS PM.std)) (L := fun n => laws_toDuel_L PM.std (laws_toMem PM.std) (laws_toWroteS PM.std) (laws_toJobRunS PM.std) n) (N := PM.std.fuel) cx_ok (.cons laws_toMem_g (.cons laws_toWroteS_g (.cons laws_toJobRunS_g .nil))) mixed .nil laws_toDuel_fn (by kernel_rfl) ⟨rfl, fun _ _ _ => rfl, fun n cur σ K r h => by cases h⟩
      ((laws_toDuel_ok PM.std (laws_toMem PM.std) (laws_toWroteS PM.std) (laws_toJobRunS PM.std) _ _ _ _ k).trans h)
  · cases h

abbrev spec_DuelOver_T := (Int) → (List (List Int)) → (List (List PM.C)) → (List (List PM.C)) → ((Bool) → PM.R) → PM.R
noncomputable def spec_DuelOver_w (c : spec_DuelOver_T) (ds : List PM.V) (k : PM.V → PM.R) : PM.R :=
  match ds with
  | [.agg [.int .i64 d_Mem_Clock, .arr (.vecs 287 3 d_Mem_Cells), .arr (.rows 189 d_Jobs), .arr (.rows 33 d_Hist)]] => c d_Mem_Clock d_Mem_Cells d_Jobs d_Hist (fun r0 => k (.bool r0))
  | _ => none
noncomputable def spec_DuelOver_l0 (A : PM.Prims) : Nat → (Int) → (Int) → (List (List Int)) → (List (List C)) → (List (List C)) → ((Bool) → PM.R) → (Unit → PM.R) → PM.R
  | 0, _, _, _, _, _, _, _ => none
  | n + 1, i1, o02, o03, o04, o05, kret_0, kx0_0 =>
    bif (A.lt i1 (A.rlen o04)) then
      bif (A.inb i1 (A.rlen o04)) then
        bif (A.not (A.eq (A.rint o04 i1 0) 3)) then
          kret_0 false
        else
          spec_DuelOver_l0 A n (A.add .i64 i1 1) o02 o03 o04 o05 kret_0 kx0_0
      else
        none
    else
      kx0_0 ()
noncomputable def spec_DuelOver_f (A : PM.Prims) (d_Mem_Clock : Int) (d_Mem_Cells : List (List Int)) (d_Jobs : List (List PM.C)) (d_Hist : List (List PM.C)) (k : (Bool) → PM.R) : PM.R :=
  spec_DuelOver_l0 A A.fuel 0 d_Mem_Clock d_Mem_Cells d_Jobs d_Hist (fun t267 =>
    k t267) (fun _ =>
    k true)
noncomputable def spec_DuelOver (A : PM.Prims) : spec_DuelOver_T := spec_DuelOver_f A
noncomputable def spec_DuelOver_L (A : PM.Prims) (n : Nat) : PM.Lam := fun cur σ K =>
  match cur, σ, K with
  | 0, ⟨[(1, .pbox 0 0), (3, .int .i64 i1)], [(0, .box [.int .i64 o02, .arr (.vecs 287 3 o03), .arr (.rows 189 o04), .arr (.rows 33 o05)])]⟩, K => spec_DuelOver_l0 A n i1 o02 o03 o04 o05 (fun t26 => K .ret ⟨[(2, .bool t26)], []⟩) (fun _ => K (.exit 0) ⟨[], []⟩)
  | _, _, _ => none
noncomputable def spec_DuelOver_E (A : PM.Prims) : PM.Env := ⟨[], [], [(0, [1, 3], [2])], [(0, [1]), (1, [1, 3]), (2, [1, 3, 8]), (3, [1, 3]), (4, [1, 3, 17]), (5, [2]), (6, [2])], spec_DuelOver_L A A.fuel⟩
theorem spec_DuelOver_l0_ok (A : PM.Prims) (n : Nat) (i1 : Int) (o02 : Int) (o03 : List (List Int)) (o04 : List (List C)) (o05 : List (List C)) (K : Go.Exit → PM.S → PM.R) : spec_DuelOver_L A (n + 1) 0 ⟨[(1, .pbox 0 0), (3, .int .i64 i1)], [(0, .box [.int .i64 o02, .arr (.vecs 287 3 o03), .arr (.rows 189 o04), .arr (.rows 33 o05)])]⟩ K = PM.roundF A cx (PM.runD A cx (spec_DuelOver_E A).inl (spec_DuelOver_E A).Γ 3) (spec_DuelOver_E A) (spec_DuelOver_L A n) 0 Go.Proofs.Try.f62 ⟨[(1, .pbox 0 0), (3, .int .i64 i1)], [(0, .box [.int .i64 o02, .arr (.vecs 287 3 o03), .arr (.rows 189 o04), .arr (.rows 33 o05)])]⟩ K := by kernel_rfl
theorem spec_DuelOver_ok (A : PM.Prims) (d_Mem_Clock : Int) (d_Mem_Cells : List (List Int)) (d_Jobs : List (List PM.C)) (d_Hist : List (List PM.C)) (k : PM.V → PM.R) : PM.pfun A cx [] (spec_DuelOver_E A) Go.Proofs.Try.f62 [.agg [.int .i64 d_Mem_Clock, .arr (.vecs 287 3 d_Mem_Cells), .arr (.rows 189 d_Jobs), .arr (.rows 33 d_Hist)]] k = spec_DuelOver_f A d_Mem_Clock d_Mem_Cells d_Jobs d_Hist (fun r0 => k (.bool r0)) := by kernel_rfl

theorem spec_DuelOver_fn : PM.FnIs Try.prog 62 Try.f62 := .of Try.func62 (by kernel_rfl) (by kernel_rfl)
theorem spec_DuelOver_g : PM.GOk Try.prog cx 62 ⟨[], spec_DuelOver_w (spec_DuelOver PM.std), none⟩ := by
  refine ⟨spec_DuelOver_fn.enter, fun _ ds k r h => ?_, fun hm => absurd rfl hm, fun _ e => (by cases e)⟩
  change spec_DuelOver_w (spec_DuelOver PM.std) ds k = some r at h
  unfold spec_DuelOver_w at h
  split at h
  · exact PM.pfun_ok (E := spec_DuelOver_E PM.std) (L := fun n => spec_DuelOver_L PM.std n) (N := PM.std.fuel) cx_ok .nil mixed .nil spec_DuelOver_fn (by kernel_rfl) ⟨rfl, fun cur σ K => by
      dsimp only [spec_DuelOver_L]
      split <;> rfl, fun n cur σ K r h => by
      dsimp only [spec_DuelOver_L] at h
      split at h
      · exact (spec_DuelOver_l0_ok PM.std n _ _ _ _ _ K).symm.trans h
      · cases h⟩
      ((spec_DuelOver_ok PM.std _ _ _ _ k).trans h)
  · cases h

abbrev impl_DuelOver_1_T := (Int) → (Int) → (Int) → (Int) → (Int) → (List (List Int)) → (Bool) → (Int) → (Int) → (Int) → (Int) → (Int) → (Int) → (Int) → (Int) → (Int) → (List (List Int)) → (List Int) → ((Bool) → PM.R) → PM.R
noncomputable def impl_DuelOver_1_w (c : impl_DuelOver_1_T) (ds : List PM.V) (k : PM.V → PM.R) : PM.R :=
  match ds with
  | [.agg [.int .i64 j_Phase, .int .i64 j_Tries, .int .i64 j_Rv, .int .i64 j_At, .int .i64 j_Stamp, .arr (.vecs 161 2 j_Seen), .bool j_Busy, .int .i64 j_Probe_Cell, .int .i64 j_Probe_Phase, .int .i64 j_Probe_Ver, .int .i64 j_Probe_Val, .int .i64 j_Commit_Who, .int .i64 j_Commit_Rv, .int .i64 j_Commit_Phase, .int .i64 j_Commit_At, .int .i64 j_Commit_Wv, .arr (.vecs 161 2 j_Commit_Puts), .arr (.ints 3 .i64 j_Commit_Reads)]] => c j_Phase j_Tries j_Rv j_At j_Stamp j_Seen j_Busy j_Probe_Cell j_Probe_Phase j_Probe_Ver j_Probe_Val j_Commit_Who j_Commit_Rv j_Commit_Phase j_Commit_At j_Commit_Wv j_Commit_Puts j_Commit_Reads (fun r0 => k (.bool r0))
  | _ => none
noncomputable def impl_DuelOver_1_f (A : PM.Prims) (j_Phase : Int) (j_Tries : Int) (j_Rv : Int) (j_At : Int) (j_Stamp : Int) (j_Seen : List (List Int)) (j_Busy : Bool) (j_Probe_Cell : Int) (j_Probe_Phase : Int) (j_Probe_Ver : Int) (j_Probe_Val : Int) (j_Commit_Who : Int) (j_Commit_Rv : Int) (j_Commit_Phase : Int) (j_Commit_At : Int) (j_Commit_Wv : Int) (j_Commit_Puts : List (List Int)) (j_Commit_Reads : List Int) (k : (Bool) → PM.R) : PM.R :=
  k (A.not (A.eq j_Phase 3))
noncomputable def impl_DuelOver_1 (A : PM.Prims) : impl_DuelOver_1_T := impl_DuelOver_1_f A
noncomputable def impl_DuelOver_1_L (A : PM.Prims) (n : Nat) : PM.Lam := fun cur σ K =>
  match cur, σ, K with
  | _, _, _ => none
noncomputable def impl_DuelOver_1_E (A : PM.Prims) : PM.Env := ⟨[], [], [], [(0, [1]), (1, [2])], impl_DuelOver_1_L A A.fuel⟩
theorem impl_DuelOver_1_ok (A : PM.Prims) (j_Phase : Int) (j_Tries : Int) (j_Rv : Int) (j_At : Int) (j_Stamp : Int) (j_Seen : List (List Int)) (j_Busy : Bool) (j_Probe_Cell : Int) (j_Probe_Phase : Int) (j_Probe_Ver : Int) (j_Probe_Val : Int) (j_Commit_Who : Int) (j_Commit_Rv : Int) (j_Commit_Phase : Int) (j_Commit_At : Int) (j_Commit_Wv : Int) (j_Commit_Puts : List (List Int)) (j_Commit_Reads : List Int) (k : PM.V → PM.R) : PM.pfun A cx [] (impl_DuelOver_1_E A) Go.Proofs.Try.f158 [.agg [.int .i64 j_Phase, .int .i64 j_Tries, .int .i64 j_Rv, .int .i64 j_At, .int .i64 j_Stamp, .arr (.vecs 161 2 j_Seen), .bool j_Busy, .int .i64 j_Probe_Cell, .int .i64 j_Probe_Phase, .int .i64 j_Probe_Ver, .int .i64 j_Probe_Val, .int .i64 j_Commit_Who, .int .i64 j_Commit_Rv, .int .i64 j_Commit_Phase, .int .i64 j_Commit_At, .int .i64 j_Commit_Wv, .arr (.vecs 161 2 j_Commit_Puts), .arr (.ints 3 .i64 j_Commit_Reads)]] k = impl_DuelOver_1_f A j_Phase j_Tries j_Rv j_At j_Stamp j_Seen j_Busy j_Probe_Cell j_Probe_Phase j_Probe_Ver j_Probe_Val j_Commit_Who j_Commit_Rv j_Commit_Phase j_Commit_At j_Commit_Wv j_Commit_Puts j_Commit_Reads (fun r0 => k (.bool r0)) := by kernel_rfl

theorem impl_DuelOver_1_fn : PM.FnIs Try.prog 158 Try.f158 := .of Try.func158 (by kernel_rfl) (by kernel_rfl)
theorem impl_DuelOver_1_g : PM.GOk Try.prog cx 158 ⟨[], impl_DuelOver_1_w (impl_DuelOver_1 PM.std), none⟩ := by
  refine ⟨impl_DuelOver_1_fn.enter, fun _ ds k r h => ?_, fun hm => absurd rfl hm, fun _ e => (by cases e)⟩
  change impl_DuelOver_1_w (impl_DuelOver_1 PM.std) ds k = some r at h
  unfold impl_DuelOver_1_w at h
  split at h
  · exact PM.pfun_ok (E := impl_DuelOver_1_E PM.std) (L := fun n => impl_DuelOver_1_L PM.std n) (N := PM.std.fuel) cx_ok .nil mixed .nil impl_DuelOver_1_fn (by kernel_rfl) ⟨rfl, fun _ _ _ => rfl, fun n cur σ K r h => by cases h⟩
      ((impl_DuelOver_1_ok PM.std _ _ _ _ _ _ _ _ _ _ _ _ _ _ _ _ _ _ k).trans h)
  · cases h

abbrev slices_IndexFunc___impl_JobRun_impl_JobRun__T := (List (List PM.C)) → ((Int) → PM.R) → PM.R
noncomputable def slices_IndexFunc___impl_JobRun_impl_JobRun__w (c : slices_IndexFunc___impl_JobRun_impl_JobRun__T) (ds : List PM.V) (k : PM.V → PM.R) : PM.R :=
  match ds with
  | [.arr (.rows 189 s), .func 158 []] => c s (fun r0 => k (.int .i64 r0))
  | _ => none
noncomputable def slices_IndexFunc___impl_JobRun_impl_JobRun__l0 (A : PM.Prims) (c_158 : impl_DuelOver_1_T) : Nat → (List (List C)) → (Int) → (Int) → ((Int) → PM.R) → (Unit → PM.R) → PM.R
  | 0, _, _, _, _, _ => none
  | n + 1, s1, t72, t83, kret_0, kx0_0 =>
    bif (A.lt t83 t72) then
      bif (A.inb t83 (A.rlen s1)) then
        c_158 (A.rint s1 t83 0) (A.rint s1 t83 1) (A.rint s1 t83 2) (A.rint s1 t83 3) (A.rint s1 t83 4) (A.rsv 2 s1 t83 5) (A.rbool s1 t83 6) (A.rint s1 t83 7) (A.rint s1 t83 8) (A.rint s1 t83 9) (A.rint s1 t83 10) (A.rint s1 t83 11) (A.rint s1 t83 12) (A.rint s1 t83 13) (A.rint s1 t83 14) (A.rint s1 t83 15) (A.rsv 2 s1 t83 16) (A.rsi s1 t83 17) (fun r4 =>
          bif r4 then
            kret_0 t83
          else
            slices_IndexFunc___impl_JobRun_impl_JobRun__l0 A c_158 n s1 t72 (A.add .i64 t83 1) kret_0 kx0_0)
      else
        none
    else
      kx0_0 ()
noncomputable def slices_IndexFunc___impl_JobRun_impl_JobRun__f (A : PM.Prims) (c_158 : impl_DuelOver_1_T) (s : List (List PM.C)) (k : (Int) → PM.R) : PM.R :=
  slices_IndexFunc___impl_JobRun_impl_JobRun__l0 A c_158 A.fuel s (A.rlen s) 0 (fun t456 =>
    k t456) (fun _ =>
    k (-1))
noncomputable def slices_IndexFunc___impl_JobRun_impl_JobRun_ (A : PM.Prims) : slices_IndexFunc___impl_JobRun_impl_JobRun__T := slices_IndexFunc___impl_JobRun_impl_JobRun__f A (impl_DuelOver_1 A)
noncomputable def slices_IndexFunc___impl_JobRun_impl_JobRun__L (A : PM.Prims) (c_158 : impl_DuelOver_1_T) (n : Nat) : PM.Lam := fun cur σ K =>
  match cur, σ, K with
  | 0, ⟨[(0, .arr (.rows 189 s1)), (1, .func 158 []), (7, .int .i64 t72), (8, .int .i64 t83)], []⟩, K => slices_IndexFunc___impl_JobRun_impl_JobRun__l0 A c_158 n s1 t72 t83 (fun t45 => K .ret ⟨[(4, .int .i64 t45)], []⟩) (fun _ => K (.exit 0) ⟨[], []⟩)
  | _, _, _ => none
noncomputable def slices_IndexFunc___impl_JobRun_impl_JobRun__E (A : PM.Prims) (c_158 : impl_DuelOver_1_T) : PM.Env := ⟨[(158, ⟨[], impl_DuelOver_1_w c_158, none⟩)], [], [(0, [0, 1, 7, 8], [4])], [(0, [0, 1]), (1, [0, 1, 7, 8]), (2, [0, 1, 7, 8, 9]), (3, [0, 1, 5, 7, 8]), (4, [0, 1, 5, 7, 8, 16]), (5, [4]), (6, [0, 1, 7, 8]), (7, [4])], slices_IndexFunc___impl_JobRun_impl_JobRun__L A c_158 A.fuel⟩
theorem slices_IndexFunc___impl_JobRun_impl_JobRun__l0_ok (A : PM.Prims) (c_158 : impl_DuelOver_1_T) (n : Nat) (s1 : List (List C)) (t72 : Int) (t83 : Int) (K : Go.Exit → PM.S → PM.R) : slices_IndexFunc___impl_JobRun_impl_JobRun__L A c_158 (n + 1) 0 ⟨[(0, .arr (.rows 189 s1)), (1, .func 158 []), (7, .int .i64 t72), (8, .int .i64 t83)], []⟩ K = PM.roundF A cx (PM.runD A cx (slices_IndexFunc___impl_JobRun_impl_JobRun__E A c_158).inl (slices_IndexFunc___impl_JobRun_impl_JobRun__E A c_158).Γ 3) (slices_IndexFunc___impl_JobRun_impl_JobRun__E A c_158) (slices_IndexFunc___impl_JobRun_impl_JobRun__L A c_158 n) 0 Go.Proofs.Try.f220 ⟨[(0, .arr (.rows 189 s1)), (1, .func 158 []), (7, .int .i64 t72), (8, .int .i64 t83)], []⟩ K := by kernel_rfl
theorem slices_IndexFunc___impl_JobRun_impl_JobRun__ok (A : PM.Prims) (c_158 : impl_DuelOver_1_T) (s : List (List PM.C)) (k : PM.V → PM.R) : PM.pfun A cx [] (slices_IndexFunc___impl_JobRun_impl_JobRun__E A c_158) Go.Proofs.Try.f220 [.arr (.rows 189 s), .func 158 []] k = slices_IndexFunc___impl_JobRun_impl_JobRun__f A c_158 s (fun r0 => k (.int .i64 r0)) := by kernel_rfl

theorem slices_IndexFunc___impl_JobRun_impl_JobRun__fn : PM.FnIs Try.prog 220 Try.f220 := .of Try.func220 (by kernel_rfl) (by kernel_rfl)
theorem slices_IndexFunc___impl_JobRun_impl_JobRun__g : PM.GOk Try.prog cx 220 ⟨[], slices_IndexFunc___impl_JobRun_impl_JobRun__w (slices_IndexFunc___impl_JobRun_impl_JobRun_ PM.std), none⟩ := by
  refine ⟨slices_IndexFunc___impl_JobRun_impl_JobRun__fn.enter, fun _ ds k r h => ?_, fun hm => absurd rfl hm, fun _ e => (by cases e)⟩
  change slices_IndexFunc___impl_JobRun_impl_JobRun__w (slices_IndexFunc___impl_JobRun_impl_JobRun_ PM.std) ds k = some r at h
  unfold slices_IndexFunc___impl_JobRun_impl_JobRun__w at h
  split at h
  · exact PM.pfun_ok (E := slices_IndexFunc___impl_JobRun_impl_JobRun__E PM.std (impl_DuelOver_1 PM.std)) (L := fun n => slices_IndexFunc___impl_JobRun_impl_JobRun__L PM.std (impl_DuelOver_1 PM.std) n) (N := PM.std.fuel) cx_ok (.cons impl_DuelOver_1_g .nil) mixed .nil slices_IndexFunc___impl_JobRun_impl_JobRun__fn (by kernel_rfl) ⟨rfl, fun cur σ K => by
      dsimp only [slices_IndexFunc___impl_JobRun_impl_JobRun__L]
      split <;> rfl, fun n cur σ K r h => by
      dsimp only [slices_IndexFunc___impl_JobRun_impl_JobRun__L] at h
      split at h
      · exact (slices_IndexFunc___impl_JobRun_impl_JobRun__l0_ok PM.std (impl_DuelOver_1 PM.std) n _ _ _ K).symm.trans h
      · cases h⟩
      ((slices_IndexFunc___impl_JobRun_impl_JobRun__ok PM.std (impl_DuelOver_1 PM.std) _ k).trans h)
  · cases h

abbrev slices_ContainsFunc___impl_JobRun_impl_JobRun__T := (List (List PM.C)) → ((Bool) → PM.R) → PM.R
noncomputable def slices_ContainsFunc___impl_JobRun_impl_JobRun__w (c : slices_ContainsFunc___impl_JobRun_impl_JobRun__T) (ds : List PM.V) (k : PM.V → PM.R) : PM.R :=
  match ds with
  | [.arr (.rows 189 s), .func 158 []] => c s (fun r0 => k (.bool r0))
  | _ => none
noncomputable def slices_ContainsFunc___impl_JobRun_impl_JobRun__f (A : PM.Prims) (c_158 : impl_DuelOver_1_T) (c_220 : slices_IndexFunc___impl_JobRun_impl_JobRun__T) (s : List (List PM.C)) (k : (Bool) → PM.R) : PM.R :=
  c_220 s (fun r1 =>
    k (A.le 0 r1))
noncomputable def slices_ContainsFunc___impl_JobRun_impl_JobRun_ (A : PM.Prims) : slices_ContainsFunc___impl_JobRun_impl_JobRun__T := slices_ContainsFunc___impl_JobRun_impl_JobRun__f A (impl_DuelOver_1 A) (slices_IndexFunc___impl_JobRun_impl_JobRun_ A)
noncomputable def slices_ContainsFunc___impl_JobRun_impl_JobRun__L (A : PM.Prims) (c_158 : impl_DuelOver_1_T) (c_220 : slices_IndexFunc___impl_JobRun_impl_JobRun__T) (n : Nat) : PM.Lam := fun cur σ K =>
  match cur, σ, K with
  | _, _, _ => none
noncomputable def slices_ContainsFunc___impl_JobRun_impl_JobRun__E (A : PM.Prims) (c_158 : impl_DuelOver_1_T) (c_220 : slices_IndexFunc___impl_JobRun_impl_JobRun__T) : PM.Env := ⟨[(158, ⟨[], impl_DuelOver_1_w c_158, none⟩), (220, ⟨[], slices_IndexFunc___impl_JobRun_impl_JobRun__w c_220, none⟩)], [], [], [(0, [0, 1]), (1, [4])], slices_ContainsFunc___impl_JobRun_impl_JobRun__L A c_158 c_220 A.fuel⟩
theorem slices_ContainsFunc___impl_JobRun_impl_JobRun__ok (A : PM.Prims) (c_158 : impl_DuelOver_1_T) (c_220 : slices_IndexFunc___impl_JobRun_impl_JobRun__T) (s : List (List PM.C)) (k : PM.V → PM.R) : PM.pfun A cx [] (slices_ContainsFunc___impl_JobRun_impl_JobRun__E A c_158 c_220) Go.Proofs.Try.f157 [.arr (.rows 189 s), .func 158 []] k = slices_ContainsFunc___impl_JobRun_impl_JobRun__f A c_158 c_220 s (fun r0 => k (.bool r0)) := by kernel_rfl

theorem slices_ContainsFunc___impl_JobRun_impl_JobRun__fn : PM.FnIs Try.prog 157 Try.f157 := .of Try.func157 (by kernel_rfl) (by kernel_rfl)
theorem slices_ContainsFunc___impl_JobRun_impl_JobRun__g : PM.GOk Try.prog cx 157 ⟨[], slices_ContainsFunc___impl_JobRun_impl_JobRun__w (slices_ContainsFunc___impl_JobRun_impl_JobRun_ PM.std), none⟩ := by
  refine ⟨slices_ContainsFunc___impl_JobRun_impl_JobRun__fn.enter, fun _ ds k r h => ?_, fun hm => absurd rfl hm, fun _ e => (by cases e)⟩
  change slices_ContainsFunc___impl_JobRun_impl_JobRun__w (slices_ContainsFunc___impl_JobRun_impl_JobRun_ PM.std) ds k = some r at h
  unfold slices_ContainsFunc___impl_JobRun_impl_JobRun__w at h
  split at h
  · exact PM.pfun_ok (E := slices_ContainsFunc___impl_JobRun_impl_JobRun__E PM.std (impl_DuelOver_1 PM.std) (slices_IndexFunc___impl_JobRun_impl_JobRun_ PM.std)) (L := fun n => slices_ContainsFunc___impl_JobRun_impl_JobRun__L PM.std (impl_DuelOver_1 PM.std) (slices_IndexFunc___impl_JobRun_impl_JobRun_ PM.std) n) (N := PM.std.fuel) cx_ok (.cons impl_DuelOver_1_g (.cons slices_IndexFunc___impl_JobRun_impl_JobRun__g .nil)) mixed .nil slices_ContainsFunc___impl_JobRun_impl_JobRun__fn (by kernel_rfl) ⟨rfl, fun _ _ _ => rfl, fun n cur σ K r h => by cases h⟩
      ((slices_ContainsFunc___impl_JobRun_impl_JobRun__ok PM.std (impl_DuelOver_1 PM.std) (slices_IndexFunc___impl_JobRun_impl_JobRun_ PM.std) _ k).trans h)
  · cases h

abbrev impl_DuelOver_T := (Int) → (List (List Int)) → (List (List PM.C)) → (List (List PM.C)) → ((Bool) → PM.R) → PM.R
noncomputable def impl_DuelOver_w (c : impl_DuelOver_T) (ds : List PM.V) (k : PM.V → PM.R) : PM.R :=
  match ds with
  | [.agg [.int .i64 d_Mem_Clock, .arr (.vecs 287 3 d_Mem_Cells), .arr (.rows 189 d_Jobs), .arr (.rows 33 d_Hist)]] => c d_Mem_Clock d_Mem_Cells d_Jobs d_Hist (fun r0 => k (.bool r0))
  | _ => none
noncomputable def impl_DuelOver_f (A : PM.Prims) (c_157 : slices_ContainsFunc___impl_JobRun_impl_JobRun__T) (d_Mem_Clock : Int) (d_Mem_Cells : List (List Int)) (d_Jobs : List (List PM.C)) (d_Hist : List (List PM.C)) (k : (Bool) → PM.R) : PM.R :=
  c_157 d_Jobs (fun r1 =>
    k (A.not r1))
noncomputable def impl_DuelOver (A : PM.Prims) : impl_DuelOver_T := impl_DuelOver_f A (slices_ContainsFunc___impl_JobRun_impl_JobRun_ A)
noncomputable def impl_DuelOver_L (A : PM.Prims) (c_157 : slices_ContainsFunc___impl_JobRun_impl_JobRun__T) (n : Nat) : PM.Lam := fun cur σ K =>
  match cur, σ, K with
  | _, _, _ => none
noncomputable def impl_DuelOver_E (A : PM.Prims) (c_157 : slices_ContainsFunc___impl_JobRun_impl_JobRun__T) : PM.Env := ⟨[(157, ⟨[], slices_ContainsFunc___impl_JobRun_impl_JobRun__w c_157, none⟩)], [], [], [(0, [1]), (1, [2])], impl_DuelOver_L A c_157 A.fuel⟩
theorem impl_DuelOver_ok (A : PM.Prims) (c_157 : slices_ContainsFunc___impl_JobRun_impl_JobRun__T) (d_Mem_Clock : Int) (d_Mem_Cells : List (List Int)) (d_Jobs : List (List PM.C)) (d_Hist : List (List PM.C)) (k : PM.V → PM.R) : PM.pfun A cx [] (impl_DuelOver_E A c_157) Go.Proofs.Try.f63 [.agg [.int .i64 d_Mem_Clock, .arr (.vecs 287 3 d_Mem_Cells), .arr (.rows 189 d_Jobs), .arr (.rows 33 d_Hist)]] k = impl_DuelOver_f A c_157 d_Mem_Clock d_Mem_Cells d_Jobs d_Hist (fun r0 => k (.bool r0)) := by kernel_rfl

theorem impl_DuelOver_fn : PM.FnIs Try.prog 63 Try.f63 := .of Try.func63 (by kernel_rfl) (by kernel_rfl)
theorem impl_DuelOver_g : PM.GOk Try.prog cx 63 ⟨[], impl_DuelOver_w (impl_DuelOver PM.std), none⟩ := by
  refine ⟨impl_DuelOver_fn.enter, fun _ ds k r h => ?_, fun hm => absurd rfl hm, fun _ e => (by cases e)⟩
  change impl_DuelOver_w (impl_DuelOver PM.std) ds k = some r at h
  unfold impl_DuelOver_w at h
  split at h
  · exact PM.pfun_ok (E := impl_DuelOver_E PM.std (slices_ContainsFunc___impl_JobRun_impl_JobRun_ PM.std)) (L := fun n => impl_DuelOver_L PM.std (slices_ContainsFunc___impl_JobRun_impl_JobRun_ PM.std) n) (N := PM.std.fuel) cx_ok (.cons slices_ContainsFunc___impl_JobRun_impl_JobRun__g .nil) mixed .nil impl_DuelOver_fn (by kernel_rfl) ⟨rfl, fun _ _ _ => rfl, fun n cur σ K r h => by cases h⟩
      ((impl_DuelOver_ok PM.std (slices_ContainsFunc___impl_JobRun_impl_JobRun_ PM.std) _ _ _ _ k).trans h)
  · cases h

abbrev laws_eqWord_T := (Int) → (Int) → (Int) → (Int) → (Int) → (Int) → ((Bool) → PM.R) → PM.R
noncomputable def laws_eqWord_w (c : laws_eqWord_T) (ds : List PM.V) (k : PM.V → PM.R) : PM.R :=
  match ds with
  | [.agg [.int .i64 a_Val, .int .i64 a_Ver, .int .i64 a_Owner], .agg [.int .i64 b_Val, .int .i64 b_Ver, .int .i64 b_Owner]] => c a_Val a_Ver a_Owner b_Val b_Ver b_Owner (fun r0 => k (.bool r0))
  | _ => none
noncomputable def laws_eqWord_f (A : PM.Prims) (a_Val : Int) (a_Ver : Int) (a_Owner : Int) (b_Val : Int) (b_Ver : Int) (b_Owner : Int) (k : (Bool) → PM.R) : PM.R :=
  bif (A.not (A.eq a_Val b_Val)) then
    k false
  else
    bif (A.not (A.eq a_Ver b_Ver)) then
      k false
    else
      bif (A.not (A.eq a_Owner b_Owner)) then
        k false
      else
        k true
noncomputable def laws_eqWord (A : PM.Prims) : laws_eqWord_T := laws_eqWord_f A
noncomputable def laws_eqWord_L (A : PM.Prims) (n : Nat) : PM.Lam := fun cur σ K =>
  match cur, σ, K with
  | _, _, _ => none
noncomputable def laws_eqWord_E (A : PM.Prims) : PM.Env := ⟨[], [], [], [(0, [2, 3]), (1, [2, 3, 9]), (2, [4]), (3, [2, 3, 14]), (4, [4]), (5, [19]), (6, [4]), (7, [4])], laws_eqWord_L A A.fuel⟩
theorem laws_eqWord_ok (A : PM.Prims) (a_Val : Int) (a_Ver : Int) (a_Owner : Int) (b_Val : Int) (b_Ver : Int) (b_Owner : Int) (k : PM.V → PM.R) : PM.pfun A cx [] (laws_eqWord_E A) Go.Proofs.Try.f271 [.agg [.int .i64 a_Val, .int .i64 a_Ver, .int .i64 a_Owner], .agg [.int .i64 b_Val, .int .i64 b_Ver, .int .i64 b_Owner]] k = laws_eqWord_f A a_Val a_Ver a_Owner b_Val b_Ver b_Owner (fun r0 => k (.bool r0)) := by kernel_rfl

theorem laws_eqWord_fn : PM.FnIs Try.prog 271 Try.f271 := .of Try.func271 (by kernel_rfl) (by kernel_rfl)
theorem laws_eqWord_g : PM.GOk Try.prog cx 271 ⟨[], laws_eqWord_w (laws_eqWord PM.std), none⟩ := by
  refine ⟨laws_eqWord_fn.enter, fun _ ds k r h => ?_, fun hm => absurd rfl hm, fun _ e => (by cases e)⟩
  change laws_eqWord_w (laws_eqWord PM.std) ds k = some r at h
  unfold laws_eqWord_w at h
  split at h
  · exact PM.pfun_ok (E := laws_eqWord_E PM.std) (L := fun n => laws_eqWord_L PM.std n) (N := PM.std.fuel) cx_ok .nil mixed .nil laws_eqWord_fn (by kernel_rfl) ⟨rfl, fun _ _ _ => rfl, fun n cur σ K r h => by cases h⟩
      ((laws_eqWord_ok PM.std _ _ _ _ _ _ k).trans h)
  · cases h

abbrev laws_eqWordS_T := (List (List Int)) → (List (List Int)) → ((Bool) → PM.R) → PM.R
noncomputable def laws_eqWordS_w (c : laws_eqWordS_T) (ds : List PM.V) (k : PM.V → PM.R) : PM.R :=
  match ds with
  | [.arr (.vecs 287 3 a), .arr (.vecs 287 3 b)] => c a b (fun r0 => k (.bool r0))
  | _ => none
noncomputable def laws_eqWordS_l0 (A : PM.Prims) (c_271 : laws_eqWord_T) : Nat → (List (List Int)) → (List (List Int)) → (Int) → ((Bool) → PM.R) → (Unit → PM.R) → PM.R
  | 0, _, _, _, _, _ => none
  | n + 1, a1, b2, i3, kret_0, kx0_0 =>
    bif (A.lt i3 (A.vlen a1)) then
      bif (A.inb i3 (A.vlen a1)) then
        bif (A.inb i3 (A.vlen b2)) then
          c_271 (A.vget a1 i3 0) (A.vget a1 i3 1) (A.vget a1 i3 2) (A.vget b2 i3 0) (A.vget b2 i3 1) (A.vget b2 i3 2) (fun r4 =>
            bif (A.not r4) then
              kret_0 false
            else
              laws_eqWordS_l0 A c_271 n a1 b2 (A.add .i64 i3 1) kret_0 kx0_0)
        else
          none
      else
        none
    else
      kx0_0 ()
noncomputable def laws_eqWordS_f (A : PM.Prims) (c_271 : laws_eqWord_T) (a : List (List Int)) (b : List (List Int)) (k : (Bool) → PM.R) : PM.R :=
  bif (A.not (A.eq (A.vlen a) (A.vlen b))) then
    k false
  else
    laws_eqWordS_l0 A c_271 A.fuel a b 0 (fun t456 =>
      k t456) (fun _ =>
      k true)
noncomputable def laws_eqWordS (A : PM.Prims) : laws_eqWordS_T := laws_eqWordS_f A (laws_eqWord A)
noncomputable def laws_eqWordS_L (A : PM.Prims) (c_271 : laws_eqWord_T) (n : Nat) : PM.Lam := fun cur σ K =>
  match cur, σ, K with
  | 0, ⟨[(0, .arr (.vecs 287 3 a1)), (1, .arr (.vecs 287 3 b2)), (5, .int .i64 i3)], []⟩, K => laws_eqWordS_l0 A c_271 n a1 b2 i3 (fun t45 => K .ret ⟨[(4, .bool t45)], []⟩) (fun _ => K (.exit 0) ⟨[], []⟩)
  | _, _, _ => none
noncomputable def laws_eqWordS_E (A : PM.Prims) (c_271 : laws_eqWord_T) : PM.Env := ⟨[(271, ⟨[], laws_eqWord_w c_271, none⟩)], [], [(0, [0, 1, 5], [4])], [(0, [0, 1]), (1, [0, 1, 10]), (2, [4]), (3, [0, 1, 5]), (4, [0, 1, 5, 14]), (5, [0, 1, 5]), (6, [0, 1, 5, 26]), (7, [4]), (8, [4])], laws_eqWordS_L A c_271 A.fuel⟩
theorem laws_eqWordS_l0_ok (A : PM.Prims) (c_271 : laws_eqWord_T) (n : Nat) (a1 : List (List Int)) (b2 : List (List Int)) (i3 : Int) (K : Go.Exit → PM.S → PM.R) : laws_eqWordS_L A c_271 (n + 1) 0 ⟨[(0, .arr (.vecs 287 3 a1)), (1, .arr (.vecs 287 3 b2)), (5, .int .i64 i3)], []⟩ K = PM.roundF A cx (PM.runD A cx (laws_eqWordS_E A c_271).inl (laws_eqWordS_E A c_271).Γ 3) (laws_eqWordS_E A c_271) (laws_eqWordS_L A c_271 n) 0 Go.Proofs.Try.f205 ⟨[(0, .arr (.vecs 287 3 a1)), (1, .arr (.vecs 287 3 b2)), (5, .int .i64 i3)], []⟩ K := by kernel_rfl
theorem laws_eqWordS_ok (A : PM.Prims) (c_271 : laws_eqWord_T) (a : List (List Int)) (b : List (List Int)) (k : PM.V → PM.R) : PM.pfun A cx [] (laws_eqWordS_E A c_271) Go.Proofs.Try.f205 [.arr (.vecs 287 3 a), .arr (.vecs 287 3 b)] k = laws_eqWordS_f A c_271 a b (fun r0 => k (.bool r0)) := by kernel_rfl

theorem laws_eqWordS_fn : PM.FnIs Try.prog 205 Try.f205 := .of Try.func205 (by kernel_rfl) (by kernel_rfl)
theorem laws_eqWordS_g : PM.GOk Try.prog cx 205 ⟨[], laws_eqWordS_w (laws_eqWordS PM.std), none⟩ := by
  refine ⟨laws_eqWordS_fn.enter, fun _ ds k r h => ?_, fun hm => absurd rfl hm, fun _ e => (by cases e)⟩
  change laws_eqWordS_w (laws_eqWordS PM.std) ds k = some r at h
  unfold laws_eqWordS_w at h
  split at h
  · exact PM.pfun_ok (E := laws_eqWordS_E PM.std (laws_eqWord PM.std)) (L := fun n => laws_eqWordS_L PM.std (laws_eqWord PM.std) n) (N := PM.std.fuel) cx_ok (.cons laws_eqWord_g .nil) mixed .nil laws_eqWordS_fn (by kernel_rfl) ⟨rfl, fun cur σ K => by
      dsimp only [laws_eqWordS_L]
      split <;> rfl, fun n cur σ K r h => by
      dsimp only [laws_eqWordS_L] at h
      split at h
      · exact (laws_eqWordS_l0_ok PM.std (laws_eqWord PM.std) n _ _ _ K).symm.trans h
      · cases h⟩
      ((laws_eqWordS_ok PM.std (laws_eqWord PM.std) _ _ k).trans h)
  · cases h

abbrev laws_eqMem_T := (Int) → (List (List Int)) → (Int) → (List (List Int)) → ((Bool) → PM.R) → PM.R
noncomputable def laws_eqMem_w (c : laws_eqMem_T) (ds : List PM.V) (k : PM.V → PM.R) : PM.R :=
  match ds with
  | [.agg [.int .i64 a_Clock, .arr (.vecs 287 3 a_Cells)], .agg [.int .i64 b_Clock, .arr (.vecs 287 3 b_Cells)]] => c a_Clock a_Cells b_Clock b_Cells (fun r0 => k (.bool r0))
  | _ => none
noncomputable def laws_eqMem_f (A : PM.Prims) (c_205 : laws_eqWordS_T) (a_Clock : Int) (a_Cells : List (List Int)) (b_Clock : Int) (b_Cells : List (List Int)) (k : (Bool) → PM.R) : PM.R :=
  bif (A.not (A.eq a_Clock b_Clock)) then
    k false
  else
    c_205 a_Cells b_Cells (fun r1 =>
      bif (A.not r1) then
        k false
      else
        k true)
noncomputable def laws_eqMem (A : PM.Prims) : laws_eqMem_T := laws_eqMem_f A (laws_eqWordS A)
noncomputable def laws_eqMem_L (A : PM.Prims) (c_205 : laws_eqWordS_T) (n : Nat) : PM.Lam := fun cur σ K =>
  match cur, σ, K with
  | _, _, _ => none
noncomputable def laws_eqMem_E (A : PM.Prims) (c_205 : laws_eqWordS_T) : PM.Env := ⟨[(205, ⟨[], laws_eqWordS_w c_205, none⟩)], [], [], [(0, [2, 3]), (1, [2, 3, 9]), (2, [4]), (3, [15]), (4, [4]), (5, [4])], laws_eqMem_L A c_205 A.fuel⟩
theorem laws_eqMem_ok (A : PM.Prims) (c_205 : laws_eqWordS_T) (a_Clock : Int) (a_Cells : List (List Int)) (b_Clock : Int) (b_Cells : List (List Int)) (k : PM.V → PM.R) : PM.pfun A cx [] (laws_eqMem_E A c_205) Go.Proofs.Try.f118 [.agg [.int .i64 a_Clock, .arr (.vecs 287 3 a_Cells)], .agg [.int .i64 b_Clock, .arr (.vecs 287 3 b_Cells)]] k = laws_eqMem_f A c_205 a_Clock a_Cells b_Clock b_Cells (fun r0 => k (.bool r0)) := by kernel_rfl

theorem laws_eqMem_fn : PM.FnIs Try.prog 118 Try.f118 := .of Try.func118 (by kernel_rfl) (by kernel_rfl)
theorem laws_eqMem_g : PM.GOk Try.prog cx 118 ⟨[], laws_eqMem_w (laws_eqMem PM.std), none⟩ := by
  refine ⟨laws_eqMem_fn.enter, fun _ ds k r h => ?_, fun hm => absurd rfl hm, fun _ e => (by cases e)⟩
  change laws_eqMem_w (laws_eqMem PM.std) ds k = some r at h
  unfold laws_eqMem_w at h
  split at h
  · exact PM.pfun_ok (E := laws_eqMem_E PM.std (laws_eqWordS PM.std)) (L := fun n => laws_eqMem_L PM.std (laws_eqWordS PM.std) n) (N := PM.std.fuel) cx_ok (.cons laws_eqWordS_g .nil) mixed .nil laws_eqMem_fn (by kernel_rfl) ⟨rfl, fun _ _ _ => rfl, fun n cur σ K r h => by cases h⟩
      ((laws_eqMem_ok PM.std (laws_eqWordS PM.std) _ _ _ _ k).trans h)
  · cases h

abbrev laws_eqCommit_T := (Int) → (Int) → (Int) → (Int) → (Int) → (List (List Int)) → (List Int) → (Int) → (Int) → (Int) → (Int) → (Int) → (List (List Int)) → (List Int) → ((Bool) → PM.R) → PM.R
noncomputable def laws_eqCommit_w (c : laws_eqCommit_T) (ds : List PM.V) (k : PM.V → PM.R) : PM.R :=
  match ds with
  | [.agg [.int .i64 a_Who, .int .i64 a_Rv, .int .i64 a_Phase, .int .i64 a_At, .int .i64 a_Wv, .arr (.vecs 161 2 a_Puts), .arr (.ints 3 .i64 a_Reads)], .agg [.int .i64 b_Who, .int .i64 b_Rv, .int .i64 b_Phase, .int .i64 b_At, .int .i64 b_Wv, .arr (.vecs 161 2 b_Puts), .arr (.ints 3 .i64 b_Reads)]] => c a_Who a_Rv a_Phase a_At a_Wv a_Puts a_Reads b_Who b_Rv b_Phase b_At b_Wv b_Puts b_Reads (fun r0 => k (.bool r0))
  | _ => none
noncomputable def laws_eqCommit_f (A : PM.Prims) (c_40 : laws_eqIntS_T) (c_66 : laws_eqRowS_T) (a_Who : Int) (a_Rv : Int) (a_Phase : Int) (a_At : Int) (a_Wv : Int) (a_Puts : List (List Int)) (a_Reads : List Int) (b_Who : Int) (b_Rv : Int) (b_Phase : Int) (b_At : Int) (b_Wv : Int) (b_Puts : List (List Int)) (b_Reads : List Int) (k : (Bool) → PM.R) : PM.R :=
  bif (A.not (A.eq a_Who b_Who)) then
    k false
  else
    bif (A.not (A.eq a_Rv b_Rv)) then
      k false
    else
      bif (A.not (A.eq a_Phase b_Phase)) then
        k false
      else
        bif (A.not (A.eq a_At b_At)) then
          k false
        else
          bif (A.not (A.eq a_Wv b_Wv)) then
            k false
          else
            c_66 a_Puts b_Puts (fun r1 =>
              bif (A.not r1) then
                k false
              else
                c_40 a_Reads b_Reads (fun r2 =>
                  bif (A.not r2) then
                    k false
                  else
                    k true))
noncomputable def laws_eqCommit (A : PM.Prims) : laws_eqCommit_T := laws_eqCommit_f A (laws_eqIntS A) (laws_eqRowS A)
noncomputable def laws_eqCommit_L (A : PM.Prims) (c_40 : laws_eqIntS_T) (c_66 : laws_eqRowS_T) (n : Nat) : PM.Lam := fun cur σ K =>
  match cur, σ, K with
  | _, _, _ => none
noncomputable def laws_eqCommit_E (A : PM.Prims) (c_40 : laws_eqIntS_T) (c_66 : laws_eqRowS_T) : PM.Env := ⟨[(40, ⟨[], laws_eqIntS_w c_40, none⟩), (66, ⟨[], laws_eqRowS_w c_66, none⟩)], [], [], [(0, [2, 3]), (1, [2, 3, 9]), (2, [4]), (3, [2, 3, 14]), (4, [4]), (5, [2, 3, 19]), (6, [4]), (7, [2, 3, 24]), (8, [4]), (9, [2, 3, 29]), (10, [4]), (11, [2, 3, 35]), (12, [4]), (13, [41]), (14, [4]), (15, [4])], laws_eqCommit_L A c_40 c_66 A.fuel⟩
theorem laws_eqCommit_ok (A : PM.Prims) (c_40 : laws_eqIntS_T) (c_66 : laws_eqRowS_T) (a_Who : Int) (a_Rv : Int) (a_Phase : Int) (a_At : Int) (a_Wv : Int) (a_Puts : List (List Int)) (a_Reads : List Int) (b_Who : Int) (b_Rv : Int) (b_Phase : Int) (b_At : Int) (b_Wv : Int) (b_Puts : List (List Int)) (b_Reads : List Int) (k : PM.V → PM.R) : PM.pfun A cx [] (laws_eqCommit_E A c_40 c_66) Go.Proofs.Try.f275 [.agg [.int .i64 a_Who, .int .i64 a_Rv, .int .i64 a_Phase, .int .i64 a_At, .int .i64 a_Wv, .arr (.vecs 161 2 a_Puts), .arr (.ints 3 .i64 a_Reads)], .agg [.int .i64 b_Who, .int .i64 b_Rv, .int .i64 b_Phase, .int .i64 b_At, .int .i64 b_Wv, .arr (.vecs 161 2 b_Puts), .arr (.ints 3 .i64 b_Reads)]] k = laws_eqCommit_f A c_40 c_66 a_Who a_Rv a_Phase a_At a_Wv a_Puts a_Reads b_Who b_Rv b_Phase b_At b_Wv b_Puts b_Reads (fun r0 => k (.bool r0)) := by kernel_rfl

theorem laws_eqCommit_fn : PM.FnIs Try.prog 275 Try.f275 := .of Try.func275 (by kernel_rfl) (by kernel_rfl)
theorem laws_eqCommit_g : PM.GOk Try.prog cx 275 ⟨[], laws_eqCommit_w (laws_eqCommit PM.std), none⟩ := by
  refine ⟨laws_eqCommit_fn.enter, fun _ ds k r h => ?_, fun hm => absurd rfl hm, fun _ e => (by cases e)⟩
  change laws_eqCommit_w (laws_eqCommit PM.std) ds k = some r at h
  unfold laws_eqCommit_w at h
  split at h
  · exact PM.pfun_ok (E := laws_eqCommit_E PM.std (laws_eqIntS PM.std) (laws_eqRowS PM.std)) (L := fun n => laws_eqCommit_L PM.std (laws_eqIntS PM.std) (laws_eqRowS PM.std) n) (N := PM.std.fuel) cx_ok (.cons laws_eqIntS_g (.cons laws_eqRowS_g .nil)) mixed .nil laws_eqCommit_fn (by kernel_rfl) ⟨rfl, fun _ _ _ => rfl, fun n cur σ K r h => by cases h⟩
      ((laws_eqCommit_ok PM.std (laws_eqIntS PM.std) (laws_eqRowS PM.std) _ _ _ _ _ _ _ _ _ _ _ _ _ _ k).trans h)
  · cases h

abbrev laws_eqJobRun_T := (Int) → (Int) → (Int) → (Int) → (Int) → (List (List Int)) → (Bool) → (Int) → (Int) → (Int) → (Int) → (Int) → (Int) → (Int) → (Int) → (Int) → (List (List Int)) → (List Int) → (Int) → (Int) → (Int) → (Int) → (Int) → (List (List Int)) → (Bool) → (Int) → (Int) → (Int) → (Int) → (Int) → (Int) → (Int) → (Int) → (Int) → (List (List Int)) → (List Int) → ((Bool) → PM.R) → PM.R
noncomputable def laws_eqJobRun_w (c : laws_eqJobRun_T) (ds : List PM.V) (k : PM.V → PM.R) : PM.R :=
  match ds with
  | [.agg [.int .i64 a_Phase, .int .i64 a_Tries, .int .i64 a_Rv, .int .i64 a_At, .int .i64 a_Stamp, .arr (.vecs 161 2 a_Seen), .bool a_Busy, .int .i64 a_Probe_Cell, .int .i64 a_Probe_Phase, .int .i64 a_Probe_Ver, .int .i64 a_Probe_Val, .int .i64 a_Commit_Who, .int .i64 a_Commit_Rv, .int .i64 a_Commit_Phase, .int .i64 a_Commit_At, .int .i64 a_Commit_Wv, .arr (.vecs 161 2 a_Commit_Puts), .arr (.ints 3 .i64 a_Commit_Reads)], .agg [.int .i64 b_Phase, .int .i64 b_Tries, .int .i64 b_Rv, .int .i64 b_At, .int .i64 b_Stamp, .arr (.vecs 161 2 b_Seen), .bool b_Busy, .int .i64 b_Probe_Cell, .int .i64 b_Probe_Phase, .int .i64 b_Probe_Ver, .int .i64 b_Probe_Val, .int .i64 b_Commit_Who, .int .i64 b_Commit_Rv, .int .i64 b_Commit_Phase, .int .i64 b_Commit_At, .int .i64 b_Commit_Wv, .arr (.vecs 161 2 b_Commit_Puts), .arr (.ints 3 .i64 b_Commit_Reads)]] => c a_Phase a_Tries a_Rv a_At a_Stamp a_Seen a_Busy a_Probe_Cell a_Probe_Phase a_Probe_Ver a_Probe_Val a_Commit_Who a_Commit_Rv a_Commit_Phase a_Commit_At a_Commit_Wv a_Commit_Puts a_Commit_Reads b_Phase b_Tries b_Rv b_At b_Stamp b_Seen b_Busy b_Probe_Cell b_Probe_Phase b_Probe_Ver b_Probe_Val b_Commit_Who b_Commit_Rv b_Commit_Phase b_Commit_At b_Commit_Wv b_Commit_Puts b_Commit_Reads (fun r0 => k (.bool r0))
  | _ => none
noncomputable def laws_eqJobRun_f (A : PM.Prims) (c_66 : laws_eqRowS_T) (c_274 : laws_eqProbe_T) (c_275 : laws_eqCommit_T) (a_Phase : Int) (a_Tries : Int) (a_Rv : Int) (a_At : Int) (a_Stamp : Int) (a_Seen : List (List Int)) (a_Busy : Bool) (a_Probe_Cell : Int) (a_Probe_Phase : Int) (a_Probe_Ver : Int) (a_Probe_Val : Int) (a_Commit_Who : Int) (a_Commit_Rv : Int) (a_Commit_Phase : Int) (a_Commit_At : Int) (a_Commit_Wv : Int) (a_Commit_Puts : List (List Int)) (a_Commit_Reads : List Int) (b_Phase : Int) (b_Tries : Int) (b_Rv : Int) (b_At : Int) (b_Stamp : Int) (b_Seen : List (List Int)) (b_Busy : Bool) (b_Probe_Cell : Int) (b_Probe_Phase : Int) (b_Probe_Ver : Int) (b_Probe_Val : Int) (b_Commit_Who : Int) (b_Commit_Rv : Int) (b_Commit_Phase : Int) (b_Commit_At : Int) (b_Commit_Wv : Int) (b_Commit_Puts : List (List Int)) (b_Commit_Reads : List Int) (k : (Bool) → PM.R) : PM.R :=
  bif (A.not (A.eq a_Phase b_Phase)) then
    k false
  else
    bif (A.not (A.eq a_Tries b_Tries)) then
      k false
    else
      bif (A.not (A.eq a_Rv b_Rv)) then
        k false
      else
        bif (A.not (A.eq a_At b_At)) then
          k false
        else
          bif (A.not (A.eq a_Stamp b_Stamp)) then
            k false
          else
            c_66 a_Seen b_Seen (fun r1 =>
              bif (A.not r1) then
                k false
              else
                bif (A.not (A.beq a_Busy b_Busy)) then
                  k false
                else
                  c_274 a_Probe_Cell a_Probe_Phase a_Probe_Ver a_Probe_Val b_Probe_Cell b_Probe_Phase b_Probe_Ver b_Probe_Val (fun r2 =>
                    bif (A.not r2) then
                      k false
                    else
                      c_275 a_Commit_Who a_Commit_Rv a_Commit_Phase a_Commit_At a_Commit_Wv a_Commit_Puts a_Commit_Reads b_Commit_Who b_Commit_Rv b_Commit_Phase b_Commit_At b_Commit_Wv b_Commit_Puts b_Commit_Reads (fun r3 =>
                        bif (A.not r3) then
                          k false
                        else
                          k true)))
noncomputable def laws_eqJobRun (A : PM.Prims) : laws_eqJobRun_T := laws_eqJobRun_f A (laws_eqRowS A) (laws_eqProbe A) (laws_eqCommit A)
noncomputable def laws_eqJobRun_L (A : PM.Prims) (c_66 : laws_eqRowS_T) (c_274 : laws_eqProbe_T) (c_275 : laws_eqCommit_T) (n : Nat) : PM.Lam := fun cur σ K =>
  match cur, σ, K with
  | _, _, _ => none
noncomputable def laws_eqJobRun_E (A : PM.Prims) (c_66 : laws_eqRowS_T) (c_274 : laws_eqProbe_T) (c_275 : laws_eqCommit_T) : PM.Env := ⟨[(66, ⟨[], laws_eqRowS_w c_66, none⟩), (274, ⟨[], laws_eqProbe_w c_274, none⟩), (275, ⟨[], laws_eqCommit_w c_275, none⟩)], [], [], [(0, [2, 3]), (1, [2, 3, 9]), (2, [4]), (3, [2, 3, 14]), (4, [4]), (5, [2, 3, 19]), (6, [4]), (7, [2, 3, 24]), (8, [4]), (9, [2, 3, 29]), (10, [4]), (11, [2, 3, 35]), (12, [4]), (13, [2, 3, 40]), (14, [4]), (15, [2, 3, 46]), (16, [4]), (17, [52]), (18, [4]), (19, [4])], laws_eqJobRun_L A c_66 c_274 c_275 A.fuel⟩
theorem laws_eqJobRun_ok (A : PM.Prims) (c_66 : laws_eqRowS_T) (c_274 : laws_eqProbe_T) (c_275 : laws_eqCommit_T) (a_Phase : Int) (a_Tries : Int) (a_Rv : Int) (a_At : Int) (a_Stamp : Int) (a_Seen : List (List Int)) (a_Busy : Bool) (a_Probe_Cell : Int) (a_Probe_Phase : Int) (a_Probe_Ver : Int) (a_Probe_Val : Int) (a_Commit_Who : Int) (a_Commit_Rv : Int) (a_Commit_Phase : Int) (a_Commit_At : Int) (a_Commit_Wv : Int) (a_Commit_Puts : List (List Int)) (a_Commit_Reads : List Int) (b_Phase : Int) (b_Tries : Int) (b_Rv : Int) (b_At : Int) (b_Stamp : Int) (b_Seen : List (List Int)) (b_Busy : Bool) (b_Probe_Cell : Int) (b_Probe_Phase : Int) (b_Probe_Ver : Int) (b_Probe_Val : Int) (b_Commit_Who : Int) (b_Commit_Rv : Int) (b_Commit_Phase : Int) (b_Commit_At : Int) (b_Commit_Wv : Int) (b_Commit_Puts : List (List Int)) (b_Commit_Reads : List Int) (k : PM.V → PM.R) : PM.pfun A cx [] (laws_eqJobRun_E A c_66 c_274 c_275) Go.Proofs.Try.f210 [.agg [.int .i64 a_Phase, .int .i64 a_Tries, .int .i64 a_Rv, .int .i64 a_At, .int .i64 a_Stamp, .arr (.vecs 161 2 a_Seen), .bool a_Busy, .int .i64 a_Probe_Cell, .int .i64 a_Probe_Phase, .int .i64 a_Probe_Ver, .int .i64 a_Probe_Val, .int .i64 a_Commit_Who, .int .i64 a_Commit_Rv, .int .i64 a_Commit_Phase, .int .i64 a_Commit_At, .int .i64 a_Commit_Wv, .arr (.vecs 161 2 a_Commit_Puts), .arr (.ints 3 .i64 a_Commit_Reads)], .agg [.int .i64 b_Phase, .int .i64 b_Tries, .int .i64 b_Rv, .int .i64 b_At, .int .i64 b_Stamp, .arr (.vecs 161 2 b_Seen), .bool b_Busy, .int .i64 b_Probe_Cell, .int .i64 b_Probe_Phase, .int .i64 b_Probe_Ver, .int .i64 b_Probe_Val, .int .i64 b_Commit_Who, .int .i64 b_Commit_Rv, .int .i64 b_Commit_Phase, .int .i64 b_Commit_At, .int .i64 b_Commit_Wv, .arr (.vecs 161 2 b_Commit_Puts), .arr (.ints 3 .i64 b_Commit_Reads)]] k = laws_eqJobRun_f A c_66 c_274 c_275 a_Phase a_Tries a_Rv a_At a_Stamp a_Seen a_Busy a_Probe_Cell a_Probe_Phase a_Probe_Ver a_Probe_Val a_Commit_Who a_Commit_Rv a_Commit_Phase a_Commit_At a_Commit_Wv a_Commit_Puts a_Commit_Reads b_Phase b_Tries b_Rv b_At b_Stamp b_Seen b_Busy b_Probe_Cell b_Probe_Phase b_Probe_Ver b_Probe_Val b_Commit_Who b_Commit_Rv b_Commit_Phase b_Commit_At b_Commit_Wv b_Commit_Puts b_Commit_Reads (fun r0 => k (.bool r0)) := by kernel_rfl

theorem laws_eqJobRun_fn : PM.FnIs Try.prog 210 Try.f210 := .of Try.func210 (by kernel_rfl) (by kernel_rfl)
theorem laws_eqJobRun_g : PM.GOk Try.prog cx 210 ⟨[], laws_eqJobRun_w (laws_eqJobRun PM.std), none⟩ := by
  refine ⟨laws_eqJobRun_fn.enter, fun _ ds k r h => ?_, fun hm => absurd rfl hm, fun _ e => (by cases e)⟩
  change laws_eqJobRun_w (laws_eqJobRun PM.std) ds k = some r at h
  unfold laws_eqJobRun_w at h
  split at h
  · exact PM.pfun_ok (E := laws_eqJobRun_E PM.std (laws_eqRowS PM.std) (laws_eqProbe PM.std) (laws_eqCommit PM.std)) (L := fun n => laws_eqJobRun_L PM.std (laws_eqRowS PM.std) (laws_eqProbe PM.std) (laws_eqCommit PM.std) n) (N := PM.std.fuel) cx_ok (.cons laws_eqRowS_g (.cons laws_eqProbe_g (.cons laws_eqCommit_g .nil))) mixed .nil laws_eqJobRun_fn (by kernel_rfl) ⟨rfl, fun _ _ _ => rfl, fun n cur σ K r h => by cases h⟩
      ((laws_eqJobRun_ok PM.std (laws_eqRowS PM.std) (laws_eqProbe PM.std) (laws_eqCommit PM.std) _ _ _ _ _ _ _ _ _ _ _ _ _ _ _ _ _ _ _ _ _ _ _ _ _ _ _ _ _ _ _ _ _ _ _ _ k).trans h)
  · cases h

abbrev laws_eqJobRunS_T := (List (List PM.C)) → (List (List PM.C)) → ((Bool) → PM.R) → PM.R
noncomputable def laws_eqJobRunS_w (c : laws_eqJobRunS_T) (ds : List PM.V) (k : PM.V → PM.R) : PM.R :=
  match ds with
  | [.arr (.rows 189 a), .arr (.rows 189 b)] => c a b (fun r0 => k (.bool r0))
  | _ => none
noncomputable def laws_eqJobRunS_l0 (A : PM.Prims) (c_210 : laws_eqJobRun_T) : Nat → (List (List C)) → (List (List C)) → (Int) → ((Bool) → PM.R) → (Unit → PM.R) → PM.R
  | 0, _, _, _, _, _ => none
  | n + 1, a1, b2, i3, kret_0, kx0_0 =>
    bif (A.lt i3 (A.rlen a1)) then
      bif (A.inb i3 (A.rlen a1)) then
        bif (A.inb i3 (A.rlen b2)) then
          c_210 (A.rint a1 i3 0) (A.rint a1 i3 1) (A.rint a1 i3 2) (A.rint a1 i3 3) (A.rint a1 i3 4) (A.rsv 2 a1 i3 5) (A.rbool a1 i3 6) (A.rint a1 i3 7) (A.rint a1 i3 8) (A.rint a1 i3 9) (A.rint a1 i3 10) (A.rint a1 i3 11) (A.rint a1 i3 12) (A.rint a1 i3 13) (A.rint a1 i3 14) (A.rint a1 i3 15) (A.rsv 2 a1 i3 16) (A.rsi a1 i3 17) (A.rint b2 i3 0) (A.rint b2 i3 1) (A.rint b2 i3 2) (A.rint b2 i3 3) (A.rint b2 i3 4) (A.rsv 2 b2 i3 5) (A.rbool b2 i3 6) (A.rint b2 i3 7) (A.rint b2 i3 8) (A.rint b2 i3 9) (A.rint b2 i3 10) (A.rint b2 i3 11) (A.rint b2 i3 12) (A.rint b2 i3 13) (A.rint b2 i3 14) (A.rint b2 i3 15) (A.rsv 2 b2 i3 16) (A.rsi b2 i3 17) (fun r4 =>
            bif (A.not r4) then
              kret_0 false
            else
              laws_eqJobRunS_l0 A c_210 n a1 b2 (A.add .i64 i3 1) kret_0 kx0_0)
        else
          none
      else
        none
    else
      kx0_0 ()
noncomputable def laws_eqJobRunS_f (A : PM.Prims) (c_210 : laws_eqJobRun_T) (a : List (List PM.C)) (b : List (List PM.C)) (k : (Bool) → PM.R) : PM.R :=
  bif (A.not (A.eq (A.rlen a) (A.rlen b))) then
    k false
  else
    laws_eqJobRunS_l0 A c_210 A.fuel a b 0 (fun t456 =>
      k t456) (fun _ =>
      k true)
noncomputable def laws_eqJobRunS (A : PM.Prims) : laws_eqJobRunS_T := laws_eqJobRunS_f A (laws_eqJobRun A)
noncomputable def laws_eqJobRunS_L (A : PM.Prims) (c_210 : laws_eqJobRun_T) (n : Nat) : PM.Lam := fun cur σ K =>
  match cur, σ, K with
  | 0, ⟨[(0, .arr (.rows 189 a1)), (1, .arr (.rows 189 b2)), (5, .int .i64 i3)], []⟩, K => laws_eqJobRunS_l0 A c_210 n a1 b2 i3 (fun t45 => K .ret ⟨[(4, .bool t45)], []⟩) (fun _ => K (.exit 0) ⟨[], []⟩)
  | _, _, _ => none
noncomputable def laws_eqJobRunS_E (A : PM.Prims) (c_210 : laws_eqJobRun_T) : PM.Env := ⟨[(210, ⟨[], laws_eqJobRun_w c_210, none⟩)], [], [(0, [0, 1, 5], [4])], [(0, [0, 1]), (1, [0, 1, 10]), (2, [4]), (3, [0, 1, 5]), (4, [0, 1, 5, 14]), (5, [0, 1, 5]), (6, [0, 1, 5, 26]), (7, [4]), (8, [4])], laws_eqJobRunS_L A c_210 A.fuel⟩
theorem laws_eqJobRunS_l0_ok (A : PM.Prims) (c_210 : laws_eqJobRun_T) (n : Nat) (a1 : List (List C)) (b2 : List (List C)) (i3 : Int) (K : Go.Exit → PM.S → PM.R) : laws_eqJobRunS_L A c_210 (n + 1) 0 ⟨[(0, .arr (.rows 189 a1)), (1, .arr (.rows 189 b2)), (5, .int .i64 i3)], []⟩ K = PM.roundF A cx (PM.runD A cx (laws_eqJobRunS_E A c_210).inl (laws_eqJobRunS_E A c_210).Γ 3) (laws_eqJobRunS_E A c_210) (laws_eqJobRunS_L A c_210 n) 0 Go.Proofs.Try.f131 ⟨[(0, .arr (.rows 189 a1)), (1, .arr (.rows 189 b2)), (5, .int .i64 i3)], []⟩ K := by kernel_rfl
theorem laws_eqJobRunS_ok (A : PM.Prims) (c_210 : laws_eqJobRun_T) (a : List (List PM.C)) (b : List (List PM.C)) (k : PM.V → PM.R) : PM.pfun A cx [] (laws_eqJobRunS_E A c_210) Go.Proofs.Try.f131 [.arr (.rows 189 a), .arr (.rows 189 b)] k = laws_eqJobRunS_f A c_210 a b (fun r0 => k (.bool r0)) := by kernel_rfl

theorem laws_eqJobRunS_fn : PM.FnIs Try.prog 131 Try.f131 := .of Try.func131 (by kernel_rfl) (by kernel_rfl)
theorem laws_eqJobRunS_g : PM.GOk Try.prog cx 131 ⟨[], laws_eqJobRunS_w (laws_eqJobRunS PM.std), none⟩ := by
  refine ⟨laws_eqJobRunS_fn.enter, fun _ ds k r h => ?_, fun hm => absurd rfl hm, fun _ e => (by cases e)⟩
  change laws_eqJobRunS_w (laws_eqJobRunS PM.std) ds k = some r at h
  unfold laws_eqJobRunS_w at h
  split at h
  · exact PM.pfun_ok (E := laws_eqJobRunS_E PM.std (laws_eqJobRun PM.std)) (L := fun n => laws_eqJobRunS_L PM.std (laws_eqJobRun PM.std) n) (N := PM.std.fuel) cx_ok (.cons laws_eqJobRun_g .nil) mixed .nil laws_eqJobRunS_fn (by kernel_rfl) ⟨rfl, fun cur σ K => by
      dsimp only [laws_eqJobRunS_L]
      split <;> rfl, fun n cur σ K r h => by
      dsimp only [laws_eqJobRunS_L] at h
      split at h
      · exact (laws_eqJobRunS_l0_ok PM.std (laws_eqJobRun PM.std) n _ _ _ K).symm.trans h
      · cases h⟩
      ((laws_eqJobRunS_ok PM.std (laws_eqJobRun PM.std) _ _ k).trans h)
  · cases h

abbrev laws_eqWrote_T := (Int) → (Int) → (List (List Int)) → (Int) → (Int) → (List (List Int)) → ((Bool) → PM.R) → PM.R
noncomputable def laws_eqWrote_w (c : laws_eqWrote_T) (ds : List PM.V) (k : PM.V → PM.R) : PM.R :=
  match ds with
  | [.agg [.int .i64 a_Stamp, .int .i64 a_Who, .arr (.vecs 161 2 a_Puts)], .agg [.int .i64 b_Stamp, .int .i64 b_Who, .arr (.vecs 161 2 b_Puts)]] => c a_Stamp a_Who a_Puts b_Stamp b_Who b_Puts (fun r0 => k (.bool r0))
  | _ => none
noncomputable def laws_eqWrote_f (A : PM.Prims) (c_66 : laws_eqRowS_T) (a_Stamp : Int) (a_Who : Int) (a_Puts : List (List Int)) (b_Stamp : Int) (b_Who : Int) (b_Puts : List (List Int)) (k : (Bool) → PM.R) : PM.R :=
  bif (A.not (A.eq a_Stamp b_Stamp)) then
    k false
  else
    bif (A.not (A.eq a_Who b_Who)) then
      k false
    else
      c_66 a_Puts b_Puts (fun r1 =>
        bif (A.not r1) then
          k false
        else
          k true)
noncomputable def laws_eqWrote (A : PM.Prims) : laws_eqWrote_T := laws_eqWrote_f A (laws_eqRowS A)
noncomputable def laws_eqWrote_L (A : PM.Prims) (c_66 : laws_eqRowS_T) (n : Nat) : PM.Lam := fun cur σ K =>
  match cur, σ, K with
  | _, _, _ => none
noncomputable def laws_eqWrote_E (A : PM.Prims) (c_66 : laws_eqRowS_T) : PM.Env := ⟨[(66, ⟨[], laws_eqRowS_w c_66, none⟩)], [], [], [(0, [2, 3]), (1, [2, 3, 9]), (2, [4]), (3, [2, 3, 14]), (4, [4]), (5, [20]), (6, [4]), (7, [4])], laws_eqWrote_L A c_66 A.fuel⟩
theorem laws_eqWrote_ok (A : PM.Prims) (c_66 : laws_eqRowS_T) (a_Stamp : Int) (a_Who : Int) (a_Puts : List (List Int)) (b_Stamp : Int) (b_Who : Int) (b_Puts : List (List Int)) (k : PM.V → PM.R) : PM.pfun A cx [] (laws_eqWrote_E A c_66) Go.Proofs.Try.f138 [.agg [.int .i64 a_Stamp, .int .i64 a_Who, .arr (.vecs 161 2 a_Puts)], .agg [.int .i64 b_Stamp, .int .i64 b_Who, .arr (.vecs 161 2 b_Puts)]] k = laws_eqWrote_f A c_66 a_Stamp a_Who a_Puts b_Stamp b_Who b_Puts (fun r0 => k (.bool r0)) := by kernel_rfl

theorem laws_eqWrote_fn : PM.FnIs Try.prog 138 Try.f138 := .of Try.func138 (by kernel_rfl) (by kernel_rfl)
theorem laws_eqWrote_g : PM.GOk Try.prog cx 138 ⟨[], laws_eqWrote_w (laws_eqWrote PM.std), none⟩ := by
  refine ⟨laws_eqWrote_fn.enter, fun _ ds k r h => ?_, fun hm => absurd rfl hm, fun _ e => (by cases e)⟩
  change laws_eqWrote_w (laws_eqWrote PM.std) ds k = some r at h
  unfold laws_eqWrote_w at h
  split at h
  · exact PM.pfun_ok (E := laws_eqWrote_E PM.std (laws_eqRowS PM.std)) (L := fun n => laws_eqWrote_L PM.std (laws_eqRowS PM.std) n) (N := PM.std.fuel) cx_ok (.cons laws_eqRowS_g .nil) mixed .nil laws_eqWrote_fn (by kernel_rfl) ⟨rfl, fun _ _ _ => rfl, fun n cur σ K r h => by cases h⟩
      ((laws_eqWrote_ok PM.std (laws_eqRowS PM.std) _ _ _ _ _ _ k).trans h)
  · cases h

abbrev laws_eqWroteS_T := (List (List PM.C)) → (List (List PM.C)) → ((Bool) → PM.R) → PM.R
noncomputable def laws_eqWroteS_w (c : laws_eqWroteS_T) (ds : List PM.V) (k : PM.V → PM.R) : PM.R :=
  match ds with
  | [.arr (.rows 33 a), .arr (.rows 33 b)] => c a b (fun r0 => k (.bool r0))
  | _ => none
noncomputable def laws_eqWroteS_l0 (A : PM.Prims) (c_138 : laws_eqWrote_T) : Nat → (List (List C)) → (List (List C)) → (Int) → ((Bool) → PM.R) → (Unit → PM.R) → PM.R
  | 0, _, _, _, _, _ => none
  | n + 1, a1, b2, i3, kret_0, kx0_0 =>
    bif (A.lt i3 (A.rlen a1)) then
      bif (A.inb i3 (A.rlen a1)) then
        bif (A.inb i3 (A.rlen b2)) then
          c_138 (A.rint a1 i3 0) (A.rint a1 i3 1) (A.rsv 2 a1 i3 2) (A.rint b2 i3 0) (A.rint b2 i3 1) (A.rsv 2 b2 i3 2) (fun r4 =>
            bif (A.not r4) then
              kret_0 false
            else
              laws_eqWroteS_l0 A c_138 n a1 b2 (A.add .i64 i3 1) kret_0 kx0_0)
        else
          none
      else
        none
    else
      kx0_0 ()
noncomputable def laws_eqWroteS_f (A : PM.Prims) (c_138 : laws_eqWrote_T) (a : List (List PM.C)) (b : List (List PM.C)) (k : (Bool) → PM.R) : PM.R :=
  bif (A.not (A.eq (A.rlen a) (A.rlen b))) then
    k false
  else
    laws_eqWroteS_l0 A c_138 A.fuel a b 0 (fun t456 =>
      k t456) (fun _ =>
      k true)
noncomputable def laws_eqWroteS (A : PM.Prims) : laws_eqWroteS_T := laws_eqWroteS_f A (laws_eqWrote A)
noncomputable def laws_eqWroteS_L (A : PM.Prims) (c_138 : laws_eqWrote_T) (n : Nat) : PM.Lam := fun cur σ K =>
  match cur, σ, K with
  | 0, ⟨[(0, .arr (.rows 33 a1)), (1, .arr (.rows 33 b2)), (5, .int .i64 i3)], []⟩, K => laws_eqWroteS_l0 A c_138 n a1 b2 i3 (fun t45 => K .ret ⟨[(4, .bool t45)], []⟩) (fun _ => K (.exit 0) ⟨[], []⟩)
  | _, _, _ => none
noncomputable def laws_eqWroteS_E (A : PM.Prims) (c_138 : laws_eqWrote_T) : PM.Env := ⟨[(138, ⟨[], laws_eqWrote_w c_138, none⟩)], [], [(0, [0, 1, 5], [4])], [(0, [0, 1]), (1, [0, 1, 10]), (2, [4]), (3, [0, 1, 5]), (4, [0, 1, 5, 14]), (5, [0, 1, 5]), (6, [0, 1, 5, 26]), (7, [4]), (8, [4])], laws_eqWroteS_L A c_138 A.fuel⟩
theorem laws_eqWroteS_l0_ok (A : PM.Prims) (c_138 : laws_eqWrote_T) (n : Nat) (a1 : List (List C)) (b2 : List (List C)) (i3 : Int) (K : Go.Exit → PM.S → PM.R) : laws_eqWroteS_L A c_138 (n + 1) 0 ⟨[(0, .arr (.rows 33 a1)), (1, .arr (.rows 33 b2)), (5, .int .i64 i3)], []⟩ K = PM.roundF A cx (PM.runD A cx (laws_eqWroteS_E A c_138).inl (laws_eqWroteS_E A c_138).Γ 3) (laws_eqWroteS_E A c_138) (laws_eqWroteS_L A c_138 n) 0 Go.Proofs.Try.f45 ⟨[(0, .arr (.rows 33 a1)), (1, .arr (.rows 33 b2)), (5, .int .i64 i3)], []⟩ K := by kernel_rfl
theorem laws_eqWroteS_ok (A : PM.Prims) (c_138 : laws_eqWrote_T) (a : List (List PM.C)) (b : List (List PM.C)) (k : PM.V → PM.R) : PM.pfun A cx [] (laws_eqWroteS_E A c_138) Go.Proofs.Try.f45 [.arr (.rows 33 a), .arr (.rows 33 b)] k = laws_eqWroteS_f A c_138 a b (fun r0 => k (.bool r0)) := by kernel_rfl

theorem laws_eqWroteS_fn : PM.FnIs Try.prog 45 Try.f45 := .of Try.func45 (by kernel_rfl) (by kernel_rfl)
theorem laws_eqWroteS_g : PM.GOk Try.prog cx 45 ⟨[], laws_eqWroteS_w (laws_eqWroteS PM.std), none⟩ := by
  refine ⟨laws_eqWroteS_fn.enter, fun _ ds k r h => ?_, fun hm => absurd rfl hm, fun _ e => (by cases e)⟩
  change laws_eqWroteS_w (laws_eqWroteS PM.std) ds k = some r at h
  unfold laws_eqWroteS_w at h
  split at h
  · exact PM.pfun_ok (E := laws_eqWroteS_E PM.std (laws_eqWrote PM.std)) (L := fun n => laws_eqWroteS_L PM.std (laws_eqWrote PM.std) n) (N := PM.std.fuel) cx_ok (.cons laws_eqWrote_g .nil) mixed .nil laws_eqWroteS_fn (by kernel_rfl) ⟨rfl, fun cur σ K => by
      dsimp only [laws_eqWroteS_L]
      split <;> rfl, fun n cur σ K r h => by
      dsimp only [laws_eqWroteS_L] at h
      split at h
      · exact (laws_eqWroteS_l0_ok PM.std (laws_eqWrote PM.std) n _ _ _ K).symm.trans h
      · cases h⟩
      ((laws_eqWroteS_ok PM.std (laws_eqWrote PM.std) _ _ k).trans h)
  · cases h

abbrev laws_eqDuel_T := (Int) → (List (List Int)) → (List (List PM.C)) → (List (List PM.C)) → (Int) → (List (List Int)) → (List (List PM.C)) → (List (List PM.C)) → ((Bool) → PM.R) → PM.R
noncomputable def laws_eqDuel_w (c : laws_eqDuel_T) (ds : List PM.V) (k : PM.V → PM.R) : PM.R :=
  match ds with
  | [.agg [.int .i64 a_Mem_Clock, .arr (.vecs 287 3 a_Mem_Cells), .arr (.rows 189 a_Jobs), .arr (.rows 33 a_Hist)], .agg [.int .i64 b_Mem_Clock, .arr (.vecs 287 3 b_Mem_Cells), .arr (.rows 189 b_Jobs), .arr (.rows 33 b_Hist)]] => c a_Mem_Clock a_Mem_Cells a_Jobs a_Hist b_Mem_Clock b_Mem_Cells b_Jobs b_Hist (fun r0 => k (.bool r0))
  | _ => none
noncomputable def laws_eqDuel_f (A : PM.Prims) (c_118 : laws_eqMem_T) (c_45 : laws_eqWroteS_T) (c_131 : laws_eqJobRunS_T) (a_Mem_Clock : Int) (a_Mem_Cells : List (List Int)) (a_Jobs : List (List PM.C)) (a_Hist : List (List PM.C)) (b_Mem_Clock : Int) (b_Mem_Cells : List (List Int)) (b_Jobs : List (List PM.C)) (b_Hist : List (List PM.C)) (k : (Bool) → PM.R) : PM.R :=
  c_118 a_Mem_Clock a_Mem_Cells b_Mem_Clock b_Mem_Cells (fun r1 =>
    bif (A.not r1) then
      k false
    else
      c_131 a_Jobs b_Jobs (fun r2 =>
        bif (A.not r2) then
          k false
        else
          c_45 a_Hist b_Hist (fun r3 =>
            bif (A.not r3) then
              k false
            else
              k true)))
noncomputable def laws_eqDuel (A : PM.Prims) : laws_eqDuel_T := laws_eqDuel_f A (laws_eqMem A) (laws_eqWroteS A) (laws_eqJobRunS A)
noncomputable def laws_eqDuel_L (A : PM.Prims) (c_118 : laws_eqMem_T) (c_45 : laws_eqWroteS_T) (c_131 : laws_eqJobRunS_T) (n : Nat) : PM.Lam := fun cur σ K =>
  match cur, σ, K with
  | _, _, _ => none
noncomputable def laws_eqDuel_E (A : PM.Prims) (c_118 : laws_eqMem_T) (c_45 : laws_eqWroteS_T) (c_131 : laws_eqJobRunS_T) : PM.Env := ⟨[(118, ⟨[], laws_eqMem_w c_118, none⟩), (45, ⟨[], laws_eqWroteS_w c_45, none⟩), (131, ⟨[], laws_eqJobRunS_w c_131, none⟩)], [], [], [(0, [2, 3]), (1, [2, 3, 10]), (2, [4]), (3, [2, 3, 16]), (4, [4]), (5, [22]), (6, [4]), (7, [4])], laws_eqDuel_L A c_118 c_45 c_131 A.fuel⟩
theorem laws_eqDuel_ok (A : PM.Prims) (c_118 : laws_eqMem_T) (c_45 : laws_eqWroteS_T) (c_131 : laws_eqJobRunS_T) (a_Mem_Clock : Int) (a_Mem_Cells : List (List Int)) (a_Jobs : List (List PM.C)) (a_Hist : List (List PM.C)) (b_Mem_Clock : Int) (b_Mem_Cells : List (List Int)) (b_Jobs : List (List PM.C)) (b_Hist : List (List PM.C)) (k : PM.V → PM.R) : PM.pfun A cx [] (laws_eqDuel_E A c_118 c_45 c_131) Go.Proofs.Try.f41 [.agg [.int .i64 a_Mem_Clock, .arr (.vecs 287 3 a_Mem_Cells), .arr (.rows 189 a_Jobs), .arr (.rows 33 a_Hist)], .agg [.int .i64 b_Mem_Clock, .arr (.vecs 287 3 b_Mem_Cells), .arr (.rows 189 b_Jobs), .arr (.rows 33 b_Hist)]] k = laws_eqDuel_f A c_118 c_45 c_131 a_Mem_Clock a_Mem_Cells a_Jobs a_Hist b_Mem_Clock b_Mem_Cells b_Jobs b_Hist (fun r0 => k (.bool r0)) := by kernel_rfl

theorem laws_eqDuel_fn : PM.FnIs Try.prog 41 Try.f41 := .of Try.func41 (by kernel_rfl) (by kernel_rfl)
theorem laws_eqDuel_g : PM.GOk Try.prog cx 41 ⟨[], laws_eqDuel_w (laws_eqDuel PM.std), none⟩ := by
  refine ⟨laws_eqDuel_fn.enter, fun _ ds k r h => ?_, fun hm => absurd rfl hm, fun _ e => (by cases e)⟩
  change laws_eqDuel_w (laws_eqDuel PM.std) ds k = some r at h
  unfold laws_eqDuel_w at h
  split at h
  · exact PM.pfun_ok (E := laws_eqDuel_E PM.std (laws_eqMem PM.std) (laws_eqWroteS PM.std) (laws_eqJobRunS PM.std)) (L := fun n => laws_eqDuel_L PM.std (laws_eqMem PM.std) (laws_eqWroteS PM.std) (laws_eqJobRunS PM.std) n) (N := PM.std.fuel) cx_ok (.cons laws_eqMem_g (.cons laws_eqWroteS_g (.cons laws_eqJobRunS_g .nil))) mixed .nil laws_eqDuel_fn (by kernel_rfl) ⟨rfl, fun _ _ _ => rfl, fun n cur σ K r h => by cases h⟩
      ((laws_eqDuel_ok PM.std (laws_eqMem PM.std) (laws_eqWroteS PM.std) (laws_eqJobRunS PM.std) _ _ _ _ _ _ _ _ k).trans h)
  · cases h

abbrev laws_FnExactDuelOver_T := (Int) → (List (List Int)) → (List (List PM.C)) → (List (List PM.C)) → ((Bool) → PM.R) → PM.R
noncomputable def laws_FnExactDuelOver_w (c : laws_FnExactDuelOver_T) (ds : List PM.V) (k : PM.V → PM.R) : PM.R :=
  match ds with
  | [.agg [.int .i64 aD_Mem_Clock, .arr (.vecs 354 3 aD_Mem_Cells), .arr (.rows 285 aD_Jobs), .arr (.rows 195 aD_Hist)]] => c aD_Mem_Clock aD_Mem_Cells aD_Jobs aD_Hist (fun r0 => k (.bool r0))
  | _ => none
noncomputable def laws_FnExactDuelOver_f (A : PM.Prims) (c_35 : laws_szDuel_T) (c_38 : laws_toDuel_T) (c_62 : spec_DuelOver_T) (c_63 : impl_DuelOver_T) (c_41 : laws_eqDuel_T) (aD_Mem_Clock : Int) (aD_Mem_Cells : List (List Int)) (aD_Jobs : List (List PM.C)) (aD_Hist : List (List PM.C)) (k : (Bool) → PM.R) : PM.R :=
  c_35 aD_Mem_Clock aD_Mem_Cells aD_Jobs aD_Hist 1048576 (fun r1 =>
    bif (A.lt r1 0) then
      k true
    else
      c_38 aD_Mem_Clock aD_Mem_Cells aD_Jobs aD_Hist (fun r2 r3 r4 r5 =>
        c_62 r2 r3 r4 r5 (fun r6 =>
          c_38 aD_Mem_Clock aD_Mem_Cells aD_Jobs aD_Hist (fun r7 r8 r9 r10 =>
            c_63 r7 r8 r9 r10 (fun r11 =>
              bif (A.not (A.beq r11 r6)) then
                k false
              else
                c_38 aD_Mem_Clock aD_Mem_Cells aD_Jobs aD_Hist (fun r12 r13 r14 r15 =>
                  c_41 r7 r8 r9 r10 r12 r13 r14 r15 (fun r16 =>
                    bif (A.not r16) then
                      k false
                    else
                      k true)))))))
noncomputable def laws_FnExactDuelOver (A : PM.Prims) : laws_FnExactDuelOver_T := laws_FnExactDuelOver_f A (laws_szDuel A) (laws_toDuel A) (spec_DuelOver A) (impl_DuelOver A) (laws_eqDuel A)
noncomputable def laws_FnExactDuelOver_L (A : PM.Prims) (c_35 : laws_szDuel_T) (c_38 : laws_toDuel_T) (c_62 : spec_DuelOver_T) (c_63 : impl_DuelOver_T) (c_41 : laws_eqDuel_T) (n : Nat) : PM.Lam := fun cur σ K =>
  match cur, σ, K with
  | _, _, _ => none
noncomputable def laws_FnExactDuelOver_E (A : PM.Prims) (c_35 : laws_szDuel_T) (c_38 : laws_toDuel_T) (c_62 : spec_DuelOver_T) (c_63 : impl_DuelOver_T) (c_41 : laws_eqDuel_T) : PM.Env := ⟨[(35, ⟨[], laws_szDuel_w c_35, none⟩), (38, ⟨[], laws_toDuel_w c_38, none⟩), (62, ⟨[], spec_DuelOver_w c_62, none⟩), (63, ⟨[], impl_DuelOver_w c_63, none⟩), (41, ⟨[], laws_eqDuel_w c_41, none⟩)], [], [], [(0, [1]), (1, [1, 3]), (2, [1, 3]), (3, [1, 11]), (4, [2]), (5, [1, 4]), (6, [1, 4, 5]), (7, [1, 4, 5, 6]), (8, [1, 5, 21]), (9, [2]), (10, [26]), (11, [2]), (12, [2])], laws_FnExactDuelOver_L A c_35 c_38 c_62 c_63 c_41 A.fuel⟩
theorem laws_FnExactDuelOver_ok (A : PM.Prims) (c_35 : laws_szDuel_T) (c_38 : laws_toDuel_T) (c_62 : spec_DuelOver_T) (c_63 : impl_DuelOver_T) (c_41 : laws_eqDuel_T) (aD_Mem_Clock : Int) (aD_Mem_Cells : List (List Int)) (aD_Jobs : List (List PM.C)) (aD_Hist : List (List PM.C)) (k : PM.V → PM.R) : PM.pfun A cx [] (laws_FnExactDuelOver_E A c_35 c_38 c_62 c_63 c_41) Go.Proofs.Try.f11 [.agg [.int .i64 aD_Mem_Clock, .arr (.vecs 354 3 aD_Mem_Cells), .arr (.rows 285 aD_Jobs), .arr (.rows 195 aD_Hist)]] k = laws_FnExactDuelOver_f A c_35 c_38 c_62 c_63 c_41 aD_Mem_Clock aD_Mem_Cells aD_Jobs aD_Hist (fun r0 => k (.bool r0)) := by kernel_rfl

theorem laws_FnExactDuelOver_fn : PM.FnIs Try.prog 11 Try.f11 := .of Try.func11 (by kernel_rfl) (by kernel_rfl)
theorem laws_FnExactDuelOver_g : PM.GOk Try.prog cx 11 ⟨[], laws_FnExactDuelOver_w (laws_FnExactDuelOver PM.std), none⟩ := by
  refine ⟨laws_FnExactDuelOver_fn.enter, fun _ ds k r h => ?_, fun hm => absurd rfl hm, fun _ e => (by cases e)⟩
  change laws_FnExactDuelOver_w (laws_FnExactDuelOver PM.std) ds k = some r at h
  unfold laws_FnExactDuelOver_w at h
  split at h
  · exact PM.pfun_ok (E := laws_FnExactDuelOver_E PM.std (laws_szDuel PM.std) (laws_toDuel PM.std) (spec_DuelOver PM.std) (impl_DuelOver PM.std) (laws_eqDuel PM.std)) (L := fun n => laws_FnExactDuelOver_L PM.std (laws_szDuel PM.std) (laws_toDuel PM.std) (spec_DuelOver PM.std) (impl_DuelOver PM.std) (laws_eqDuel PM.std) n) (N := PM.std.fuel) cx_ok (.cons laws_szDuel_g (.cons laws_toDuel_g (.cons spec_DuelOver_g (.cons impl_DuelOver_g (.cons laws_eqDuel_g .nil))))) mixed .nil laws_FnExactDuelOver_fn (by kernel_rfl) ⟨rfl, fun _ _ _ => rfl, fun n cur σ K r h => by cases h⟩
      ((laws_FnExactDuelOver_ok PM.std (laws_szDuel PM.std) (laws_toDuel PM.std) (spec_DuelOver PM.std) (impl_DuelOver PM.std) (laws_eqDuel PM.std) _ _ _ _ k).trans h)
  · cases h

end X
