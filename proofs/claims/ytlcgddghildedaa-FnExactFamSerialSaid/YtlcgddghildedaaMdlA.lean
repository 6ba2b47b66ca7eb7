/- Models of the functions, or plain laws about them; each theorem states its own conditions. -/
import Derived.Test.YtlcgddghildedaaL3
import Derived.Test.YtlcgddghildedaaMKF
import Derived.Test.YtlcgddghildedaaProg
import Derived.KernelRfl
set_option linter.unusedVariables false
set_option linter.unusedSimpArgs false
open Go.Proofs
namespace X
open PM
set_option maxRecDepth 100000
set_option maxHeartbeats 4000000
noncomputable def cx : PM.Cx := [
  (2, ⟨1, false, [.int .i64 0], none, 0, none, [], [], [], [.int .i64], false⟩),
  (3, ⟨1, false, [.int .i64 0], none, 0, none, [], [], [], [.int .i64], false⟩),
  (4, ⟨1, false, [.bool false], none, 0, none, [], [], [], [.bool], false⟩),
  (5, ⟨1, false, [.int .u8 0], none, 0, none, [], [], [], [.int .u8], false⟩),
  (6, ⟨1, false, [.int .u8 0], none, 0, none, [], [], [], [.int .u8], false⟩),
  (7, ⟨4, true, [.int .i64 0, .int .i64 0, .bool false, .int .u8 0], none, 0, none, [0, 1, 2, 3], [1, 1, 1, 1], [2, 3, 4, 6], [.int .i64, .int .i64, .bool, .int .u8], true⟩),
  (8, ⟨4, true, [.int .i64 0, .int .i64 0, .bool false, .int .u8 0], none, 0, none, [0, 1, 2, 3], [1, 1, 1, 1], [2, 3, 4, 6], [.int .i64, .int .i64, .bool, .int .u8], true⟩),
  (12, ⟨1, false, [.int .u64 0], none, 0, none, [], [], [], [.int .u64], false⟩),
  (21, ⟨1, false, [.int .i32 0], none, 0, none, [], [], [], [.int .i32], false⟩),
  (22, ⟨1, false, [.arr (.emp (.ints 5 .u8))], some (.ints 5 .u8), 1, none, [], [], [], [.sl 22], false⟩),
  (24, ⟨1, false, [.arr (.emp (.ints 3 .i64))], some (.ints 3 .i64), 1, none, [], [], [], [.sl 24], false⟩),
  (25, ⟨1, false, [.arr (.emp (.rows 33))], some (.rows 33), 3, none, [], [], [], [.sl 25], false⟩),
  (31, ⟨1, false, [.arr (.emp (.vecs 161 2))], some (.vecs 161 2), 2, none, [], [], [], [.sl 31], false⟩),
  (32, ⟨3, true, [.int .i64 0, .int .i64 0, .arr (.emp (.vecs 161 2))], none, 0, none, [0, 1, 2], [1, 1, 1], [3, 3, 31], [.int .i64, .int .i64, .sl 31], false⟩),
  (33, ⟨3, true, [.int .i64 0, .int .i64 0, .arr (.emp (.vecs 161 2))], none, 0, none, [0, 1, 2], [1, 1, 1], [3, 3, 31], [.int .i64, .int .i64, .sl 31], false⟩),
  (39, ⟨1, false, [.arr (.emp (.vecs 354 3))], some (.vecs 354 3), 3, none, [], [], [], [.sl 39], false⟩),
  (40, ⟨2, true, [.int .i64 0, .arr (.emp (.vecs 354 3))], none, 0, none, [0, 1], [1, 1], [3, 39], [.int .i64, .sl 39], false⟩),
  (41, ⟨2, true, [.int .i64 0, .arr (.emp (.vecs 354 3))], none, 0, none, [0, 1], [1, 1], [3, 39], [.int .i64, .sl 39], false⟩),
  (42, ⟨2, true, [.arr (.emp (.ints 3 .i64)), .int .i64 0], none, 0, none, [0, 1], [1, 1], [24, 3], [.sl 24, .int .i64], false⟩),
  (43, ⟨2, true, [.arr (.emp (.ints 3 .i64)), .int .i64 0], none, 0, none, [0, 1], [1, 1], [24, 3], [.sl 24, .int .i64], false⟩),
  (44, ⟨1, false, [.arr (.emp (.vecs 277 3))], some (.vecs 277 3), 3, none, [], [], [], [.sl 44], false⟩),
  (45, ⟨1, false, [.arr (.emp (.rows 272))], some (.rows 272), 40, none, [], [], [], [.sl 45], false⟩),
  (46, ⟨1, false, [.arr (.emp (.rows 195))], some (.rows 195), 3, none, [], [], [], [.sl 46], false⟩),
  (47, ⟨9, true, [.int .i64 0, .int .i64 0, .int .i64 0, .arr (.emp (.vecs 354 3)), .arr (.emp (.ints 3 .i64)), .int .i64 0, .arr (.emp (.vecs 277 3)), .arr (.emp (.rows 272)), .arr (.emp (.rows 195))], none, 0, none, [0, 1, 2, 4, 6, 7, 8], [1, 1, 2, 2, 1, 1, 1], [3, 3, 41, 43, 44, 45, 46], [.int .i64, .int .i64, .int .i64, .sl 39, .sl 24, .int .i64, .sl 44, .sl 45, .sl 46], false⟩),
  (48, ⟨9, true, [.int .i64 0, .int .i64 0, .int .i64 0, .arr (.emp (.vecs 354 3)), .arr (.emp (.ints 3 .i64)), .int .i64 0, .arr (.emp (.vecs 277 3)), .arr (.emp (.rows 272)), .arr (.emp (.rows 195))], none, 0, none, [0, 1, 2, 4, 6, 7, 8], [1, 1, 2, 2, 1, 1, 1], [3, 3, 41, 43, 44, 45, 46], [.int .i64, .int .i64, .int .i64, .sl 39, .sl 24, .int .i64, .sl 44, .sl 45, .sl 46], false⟩),
  (51, ⟨1, false, [.arr (.emp (.vecs 287 3))], some (.vecs 287 3), 3, none, [], [], [], [.sl 51], false⟩),
  (52, ⟨2, true, [.int .i64 0, .arr (.emp (.vecs 287 3))], none, 0, none, [0, 1], [1, 1], [3, 51], [.int .i64, .sl 51], false⟩),
  (53, ⟨2, true, [.int .i64 0, .arr (.emp (.vecs 287 3))], none, 0, none, [0, 1], [1, 1], [3, 51], [.int .i64, .sl 51], false⟩),
  (54, ⟨2, true, [.arr (.emp (.ints 3 .i64)), .int .i64 0], none, 0, none, [0, 1], [1, 1], [24, 3], [.sl 24, .int .i64], false⟩),
  (55, ⟨1, false, [.arr (.emp (.vecs 275 3))], some (.vecs 275 3), 3, none, [], [], [], [.sl 55], false⟩),
  (56, ⟨1, false, [.arr (.emp (.rows 175))], some (.rows 175), 40, none, [], [], [], [.sl 56], false⟩),
  (57, ⟨9, true, [.int .i64 0, .int .i64 0, .int .i64 0, .arr (.emp (.vecs 287 3)), .arr (.emp (.ints 3 .i64)), .int .i64 0, .arr (.emp (.vecs 275 3)), .arr (.emp (.rows 175)), .arr (.emp (.rows 33))], none, 0, none, [0, 1, 2, 4, 6, 7, 8], [1, 1, 2, 2, 1, 1, 1], [3, 3, 53, 54, 55, 56, 25], [.int .i64, .int .i64, .int .i64, .sl 51, .sl 24, .int .i64, .sl 55, .sl 56, .sl 25], false⟩),
  (58, ⟨9, true, [.int .i64 0, .int .i64 0, .int .i64 0, .arr (.emp (.vecs 287 3)), .arr (.emp (.ints 3 .i64)), .int .i64 0, .arr (.emp (.vecs 275 3)), .arr (.emp (.rows 175)), .arr (.emp (.rows 33))], none, 0, none, [0, 1, 2, 4, 6, 7, 8], [1, 1, 2, 2, 1, 1, 1], [3, 3, 53, 54, 55, 56, 25], [.int .i64, .int .i64, .int .i64, .sl 51, .sl 24, .int .i64, .sl 55, .sl 56, .sl 25], false⟩),
  (62, ⟨1, false, [.arr (.emp (.rows 285))], some (.rows 285), 18, none, [], [], [], [.sl 62], false⟩),
  (63, ⟨4, true, [.int .i64 0, .arr (.emp (.vecs 354 3)), .arr (.emp (.rows 285)), .arr (.emp (.rows 195))], none, 0, none, [0, 2, 3], [2, 1, 1], [41, 62, 46], [.int .i64, .sl 39, .sl 62, .sl 46], false⟩),
  (64, ⟨4, true, [.int .i64 0, .arr (.emp (.vecs 354 3)), .arr (.emp (.rows 285)), .arr (.emp (.rows 195))], none, 0, none, [0, 2, 3], [2, 1, 1], [41, 62, 46], [.int .i64, .sl 39, .sl 62, .sl 46], false⟩),
  (68, ⟨1, false, [.arr (.emp (.rows 189))], some (.rows 189), 18, none, [], [], [], [.sl 68], false⟩),
  (69, ⟨4, true, [.int .i64 0, .arr (.emp (.vecs 287 3)), .arr (.emp (.rows 189)), .arr (.emp (.rows 33))], none, 0, none, [0, 2, 3], [2, 1, 1], [53, 68, 25], [.int .i64, .sl 51, .sl 68, .sl 25], false⟩),
  (70, ⟨4, true, [.int .i64 0, .arr (.emp (.vecs 287 3)), .arr (.emp (.rows 189)), .arr (.emp (.rows 33))], none, 0, none, [0, 2, 3], [2, 1, 1], [53, 68, 25], [.int .i64, .sl 51, .sl 68, .sl 25], false⟩),
  (78, ⟨1, false, [.arr (.emp (.rows 203))], some (.rows 203), 2, none, [], [], [], [.sl 78], false⟩),
  (81, ⟨1, false, [.arr (.emp (.rows 205))], some (.rows 205), 2, none, [], [], [], [.sl 81], false⟩),
  (90, ⟨1, false, [.arr (.emp (.vecs 297 2))], some (.vecs 297 2), 2, none, [], [], [], [.sl 90], false⟩),
  (91, ⟨1, false, [.arr (.emp (.vecs 299 3))], some (.vecs 299 3), 3, none, [], [], [], [.sl 91], false⟩),
  (92, ⟨1, false, [.arr (.emp (.rows 295))], some (.rows 295), 15, none, [], [], [], [.sl 92], false⟩),
  (93, ⟨10, true, [.int .i64 0, .int .i64 0, .int .i64 0, .bool false, .arr (.emp (.ints 3 .i64)), .arr (.emp (.vecs 297 2)), .arr (.emp (.vecs 299 3)), .arr (.emp (.ints 3 .i64)), .arr (.emp (.vecs 297 2)), .arr (.emp (.rows 295))], none, 0, none, [0, 1, 2, 3, 4, 5, 6, 7, 8, 9], [1, 1, 1, 1, 1, 1, 1, 1, 1, 1], [3, 3, 3, 4, 24, 90, 91, 24, 90, 92], [.int .i64, .int .i64, .int .i64, .bool, .sl 24, .sl 90, .sl 91, .sl 24, .sl 90, .sl 92], false⟩),
  (94, ⟨10, true, [.int .i64 0, .int .i64 0, .int .i64 0, .bool false, .arr (.emp (.ints 3 .i64)), .arr (.emp (.vecs 297 2)), .arr (.emp (.vecs 299 3)), .arr (.emp (.ints 3 .i64)), .arr (.emp (.vecs 297 2)), .arr (.emp (.rows 295))], none, 0, none, [0, 1, 2, 3, 4, 5, 6, 7, 8, 9], [1, 1, 1, 1, 1, 1, 1, 1, 1, 1], [3, 3, 3, 4, 24, 90, 91, 24, 90, 92], [.int .i64, .int .i64, .int .i64, .bool, .sl 24, .sl 90, .sl 91, .sl 24, .sl 90, .sl 92], false⟩),
  (97, ⟨1, false, [.arr (.emp (.vecs 225 3))], some (.vecs 225 3), 3, none, [], [], [], [.sl 97], false⟩),
  (98, ⟨1, false, [.arr (.emp (.rows 214))], some (.rows 214), 15, none, [], [], [], [.sl 98], false⟩),
  (99, ⟨10, true, [.int .i64 0, .int .i64 0, .int .i64 0, .bool false, .arr (.emp (.ints 3 .i64)), .arr (.emp (.vecs 161 2)), .arr (.emp (.vecs 225 3)), .arr (.emp (.ints 3 .i64)), .arr (.emp (.vecs 161 2)), .arr (.emp (.rows 214))], none, 0, none, [0, 1, 2, 3, 4, 5, 6, 7, 8, 9], [1, 1, 1, 1, 1, 1, 1, 1, 1, 1], [3, 3, 3, 4, 24, 31, 97, 24, 31, 98], [.int .i64, .int .i64, .int .i64, .bool, .sl 24, .sl 31, .sl 97, .sl 24, .sl 31, .sl 98], false⟩),
  (100, ⟨10, true, [.int .i64 0, .int .i64 0, .int .i64 0, .bool false, .arr (.emp (.ints 3 .i64)), .arr (.emp (.vecs 161 2)), .arr (.emp (.vecs 225 3)), .arr (.emp (.ints 3 .i64)), .arr (.emp (.vecs 161 2)), .arr (.emp (.rows 214))], none, 0, none, [0, 1, 2, 3, 4, 5, 6, 7, 8, 9], [1, 1, 1, 1, 1, 1, 1, 1, 1, 1], [3, 3, 3, 4, 24, 31, 97, 24, 31, 98], [.int .i64, .int .i64, .int .i64, .bool, .sl 24, .sl 31, .sl 97, .sl 24, .sl 31, .sl 98], false⟩),
  (112, ⟨1, false, [.arr (.emp (.rows 309))], some (.rows 309), 1, none, [], [], [], [.sl 112], false⟩),
  (113, ⟨5, true, [.arr (.emp (.ints 3 .i64)), .arr (.emp (.ints 3 .i64)), .arr (.emp (.vecs 297 2)), .arr (.emp (.rows 309)), .arr (.emp (.ints 3 .i64))], none, 0, none, [0, 1, 2, 3, 4], [1, 1, 1, 1, 1], [24, 24, 90, 112, 24], [.sl 24, .sl 24, .sl 90, .sl 112, .sl 24], false⟩),
  (114, ⟨5, true, [.arr (.emp (.ints 3 .i64)), .arr (.emp (.ints 3 .i64)), .arr (.emp (.vecs 297 2)), .arr (.emp (.rows 309)), .arr (.emp (.ints 3 .i64))], none, 0, none, [0, 1, 2, 3, 4], [1, 1, 1, 1, 1], [24, 24, 90, 112, 24], [.sl 24, .sl 24, .sl 90, .sl 112, .sl 24], false⟩),
  (117, ⟨1, false, [.arr (.emp (.rows 233))], some (.rows 233), 1, none, [], [], [], [.sl 117], false⟩),
  (118, ⟨5, true, [.arr (.emp (.ints 3 .i64)), .arr (.emp (.ints 3 .i64)), .arr (.emp (.vecs 161 2)), .arr (.emp (.rows 233)), .arr (.emp (.ints 3 .i64))], none, 0, none, [0, 1, 2, 3, 4], [1, 1, 1, 1, 1], [24, 24, 31, 117, 24], [.sl 24, .sl 24, .sl 31, .sl 117, .sl 24], false⟩),
  (119, ⟨5, true, [.arr (.emp (.ints 3 .i64)), .arr (.emp (.ints 3 .i64)), .arr (.emp (.vecs 161 2)), .arr (.emp (.rows 233)), .arr (.emp (.ints 3 .i64))], none, 0, none, [0, 1, 2, 3, 4], [1, 1, 1, 1, 1], [24, 24, 31, 117, 24], [.sl 24, .sl 24, .sl 31, .sl 117, .sl 24], false⟩),
  (127, ⟨3, true, [.arr (.emp (.ints 3 .i64)), .arr (.emp (.ints 3 .i64)), .int .i64 0], none, 0, none, [0, 1, 2], [1, 1, 1], [24, 24, 3], [.sl 24, .sl 24, .int .i64], false⟩),
  (128, ⟨3, true, [.arr (.emp (.ints 3 .i64)), .arr (.emp (.ints 3 .i64)), .int .i64 0], none, 0, none, [0, 1, 2], [1, 1, 1], [24, 24, 3], [.sl 24, .sl 24, .int .i64], false⟩),
  (129, ⟨1, false, [.arr (.emp (.rows 317))], some (.rows 317), 2, none, [], [], [], [.sl 129], false⟩),
  (130, ⟨1, false, [.arr (.emp (.vecs 322 3))], some (.vecs 322 3), 3, none, [], [], [], [.sl 130], false⟩),
  (131, ⟨5, true, [.arr (.emp (.ints 3 .i64)), .arr (.emp (.ints 3 .i64)), .int .i64 0, .arr (.emp (.rows 317)), .arr (.emp (.vecs 322 3))], none, 0, none, [0, 3, 4], [3, 1, 1], [128, 129, 130], [.sl 24, .sl 24, .int .i64, .sl 129, .sl 130], false⟩),
  (132, ⟨5, true, [.arr (.emp (.ints 3 .i64)), .arr (.emp (.ints 3 .i64)), .int .i64 0, .arr (.emp (.rows 317)), .arr (.emp (.vecs 322 3))], none, 0, none, [0, 3, 4], [3, 1, 1], [128, 129, 130], [.sl 24, .sl 24, .int .i64, .sl 129, .sl 130], false⟩),
  (135, ⟨3, true, [.arr (.emp (.ints 3 .i64)), .arr (.emp (.ints 3 .i64)), .int .i64 0], none, 0, none, [0, 1, 2], [1, 1, 1], [24, 24, 3], [.sl 24, .sl 24, .int .i64], false⟩),
  (136, ⟨1, false, [.arr (.emp (.rows 242))], some (.rows 242), 2, none, [], [], [], [.sl 136], false⟩),
  (137, ⟨1, false, [.arr (.emp (.vecs 320 3))], some (.vecs 320 3), 3, none, [], [], [], [.sl 137], false⟩),
  (138, ⟨5, true, [.arr (.emp (.ints 3 .i64)), .arr (.emp (.ints 3 .i64)), .int .i64 0, .arr (.emp (.rows 242)), .arr (.emp (.vecs 320 3))], none, 0, none, [0, 3, 4], [3, 1, 1], [135, 136, 137], [.sl 24, .sl 24, .int .i64, .sl 136, .sl 137], false⟩),
  (139, ⟨5, true, [.arr (.emp (.ints 3 .i64)), .arr (.emp (.ints 3 .i64)), .int .i64 0, .arr (.emp (.rows 242)), .arr (.emp (.vecs 320 3))], none, 0, none, [0, 3, 4], [3, 1, 1], [135, 136, 137], [.sl 24, .sl 24, .int .i64, .sl 136, .sl 137], false⟩),
  (160, ⟨2, true, [.int .i64 0, .int .i64 0], none, 0, none, [0, 1], [1, 1], [3, 3], [.int .i64, .int .i64], true⟩),
  (161, ⟨2, true, [.int .i64 0, .int .i64 0], none, 0, none, [0, 1], [1, 1], [3, 3], [.int .i64, .int .i64], true⟩),
  (168, ⟨1, false, [.arr (.emp (.rows 396))], some (.rows 396), 5, none, [], [], [], [.sl 168], false⟩),
  (169, ⟨1, false, [.arr (.emp (.vecs 399 3))], some (.vecs 399 3), 3, none, [], [], [], [.sl 169], false⟩),
  (170, ⟨4, true, [.int .i64 0, .int .i64 0, .int .i64 0, .int .i64 0], none, 0, none, [0, 1, 2, 3], [1, 1, 1, 1], [3, 3, 3, 3], [.int .i64, .int .i64, .int .i64, .int .i64], true⟩),
  (171, ⟨4, true, [.int .i64 0, .int .i64 0, .int .i64 0, .int .i64 0], none, 0, none, [0, 1, 2, 3], [1, 1, 1, 1], [3, 3, 3, 3], [.int .i64, .int .i64, .int .i64, .int .i64], true⟩),
  (172, ⟨7, true, [.int .i64 0, .int .i64 0, .int .i64 0, .int .i64 0, .int .i64 0, .arr (.emp (.vecs 161 2)), .arr (.emp (.ints 3 .i64))], none, 0, none, [0, 1, 2, 3, 4, 5, 6], [1, 1, 1, 1, 1, 1, 1], [3, 3, 3, 3, 3, 31, 24], [.int .i64, .int .i64, .int .i64, .int .i64, .int .i64, .sl 31, .sl 24], false⟩),
  (173, ⟨7, true, [.int .i64 0, .int .i64 0, .int .i64 0, .int .i64 0, .int .i64 0, .arr (.emp (.vecs 161 2)), .arr (.emp (.ints 3 .i64))], none, 0, none, [0, 1, 2, 3, 4, 5, 6], [1, 1, 1, 1, 1, 1, 1], [3, 3, 3, 3, 3, 31, 24], [.int .i64, .int .i64, .int .i64, .int .i64, .int .i64, .sl 31, .sl 24], false⟩),
  (174, ⟨40, true, [.int .i64 0, .int .i64 0, .int .i64 0, .int .i64 0, .int .i64 0, .int .i64 0, .int .i64 0, .int .i64 0, .int .i64 0, .int .i64 0, .int .i64 0, .bool false, .arr (.emp (.ints 3 .i64)), .arr (.emp (.vecs 161 2)), .arr (.emp (.vecs 161 2)), .arr (.emp (.rows 396)), .arr (.emp (.vecs 399 3)), .arr (.emp (.ints 3 .i64)), .bool false, .int .i64 0, .int .i64 0, .int .i64 0, .int .i64 0, .int .i64 0, .int .i64 0, .int .i64 0, .int .i64 0, .int .i64 0, .arr (.emp (.vecs 161 2)), .arr (.emp (.ints 3 .i64)), .int .i64 0, .int .i64 0, .int .i64 0, .bool false, .arr (.emp (.ints 3 .i64)), .arr (.emp (.vecs 161 2)), .arr (.emp (.vecs 225 3)), .arr (.emp (.ints 3 .i64)), .arr (.emp (.vecs 161 2)), .arr (.emp (.rows 214))], none, 0, none, [0, 1, 2, 3, 4, 5, 6, 7, 8, 9, 10, 11, 12, 13, 14, 15, 16, 17, 18, 19, 23, 30], [1, 1, 1, 1, 1, 1, 1, 1, 1, 1, 1, 1, 1, 1, 1, 1, 1, 1, 1, 4, 7, 10], [3, 3, 3, 3, 3, 3, 3, 3, 3, 3, 3, 4, 24, 31, 31, 168, 169, 24, 4, 171, 173, 100], [.int .i64, .int .i64, .int .i64, .int .i64, .int .i64, .int .i64, .int .i64, .int .i64, .int .i64, .int .i64, .int .i64, .bool, .sl 24, .sl 31, .sl 31, .sl 168, .sl 169, .sl 24, .bool, .int .i64, .int .i64, .int .i64, .int .i64, .int .i64, .int .i64, .int .i64, .int .i64, .int .i64, .sl 31, .sl 24, .int .i64, .int .i64, .int .i64, .bool, .sl 24, .sl 31, .sl 97, .sl 24, .sl 31, .sl 98], false⟩),
  (175, ⟨40, true, [.int .i64 0, .int .i64 0, .int .i64 0, .int .i64 0, .int .i64 0, .int .i64 0, .int .i64 0, .int .i64 0, .int .i64 0, .int .i64 0, .int .i64 0, .bool false, .arr (.emp (.ints 3 .i64)), .arr (.emp (.vecs 161 2)), .arr (.emp (.vecs 161 2)), .arr (.emp (.rows 396)), .arr (.emp (.vecs 399 3)), .arr (.emp (.ints 3 .i64)), .bool false, .int .i64 0, .int .i64 0, .int .i64 0, .int .i64 0, .int .i64 0, .int .i64 0, .int .i64 0, .int .i64 0, .int .i64 0, .arr (.emp (.vecs 161 2)), .arr (.emp (.ints 3 .i64)), .int .i64 0, .int .i64 0, .int .i64 0, .bool false, .arr (.emp (.ints 3 .i64)), .arr (.emp (.vecs 161 2)), .arr (.emp (.vecs 225 3)), .arr (.emp (.ints 3 .i64)), .arr (.emp (.vecs 161 2)), .arr (.emp (.rows 214))], none, 0, none, [0, 1, 2, 3, 4, 5, 6, 7, 8, 9, 10, 11, 12, 13, 14, 15, 16, 17, 18, 19, 23, 30], [1, 1, 1, 1, 1, 1, 1, 1, 1, 1, 1, 1, 1, 1, 1, 1, 1, 1, 1, 4, 7, 10], [3, 3, 3, 3, 3, 3, 3, 3, 3, 3, 3, 4, 24, 31, 31, 168, 169, 24, 4, 171, 173, 100], [.int .i64, .int .i64, .int .i64, .int .i64, .int .i64, .int .i64, .int .i64, .int .i64, .int .i64, .int .i64, .int .i64, .bool, .sl 24, .sl 31, .sl 31, .sl 168, .sl 169, .sl 24, .bool, .int .i64, .int .i64, .int .i64, .int .i64, .int .i64, .int .i64, .int .i64, .int .i64, .int .i64, .sl 31, .sl 24, .int .i64, .int .i64, .int .i64, .bool, .sl 24, .sl 31, .sl 97, .sl 24, .sl 31, .sl 98], false⟩),
  (188, ⟨18, true, [.int .i64 0, .int .i64 0, .int .i64 0, .int .i64 0, .int .i64 0, .arr (.emp (.vecs 161 2)), .bool false, .int .i64 0, .int .i64 0, .int .i64 0, .int .i64 0, .int .i64 0, .int .i64 0, .int .i64 0, .int .i64 0, .int .i64 0, .arr (.emp (.vecs 161 2)), .arr (.emp (.ints 3 .i64))], none, 0, none, [0, 1, 2, 3, 4, 5, 6, 7, 11], [1, 1, 1, 1, 1, 1, 1, 4, 7], [3, 3, 3, 3, 3, 31, 4, 171, 173], [.int .i64, .int .i64, .int .i64, .int .i64, .int .i64, .sl 31, .bool, .int .i64, .int .i64, .int .i64, .int .i64, .int .i64, .int .i64, .int .i64, .int .i64, .int .i64, .sl 31, .sl 24], false⟩),
  (189, ⟨18, true, [.int .i64 0, .int .i64 0, .int .i64 0, .int .i64 0, .int .i64 0, .arr (.emp (.vecs 161 2)), .bool false, .int .i64 0, .int .i64 0, .int .i64 0, .int .i64 0, .int .i64 0, .int .i64 0, .int .i64 0, .int .i64 0, .int .i64 0, .arr (.emp (.vecs 161 2)), .arr (.emp (.ints 3 .i64))], none, 0, none, [0, 1, 2, 3, 4, 5, 6, 7, 11], [1, 1, 1, 1, 1, 1, 1, 4, 7], [3, 3, 3, 3, 3, 31, 4, 171, 173], [.int .i64, .int .i64, .int .i64, .int .i64, .int .i64, .sl 31, .bool, .int .i64, .int .i64, .int .i64, .int .i64, .int .i64, .int .i64, .int .i64, .int .i64, .int .i64, .sl 31, .sl 24], false⟩),
  (194, ⟨3, true, [.int .i64 0, .int .i64 0, .arr (.emp (.vecs 297 2))], none, 0, none, [0, 1, 2], [1, 1, 1], [3, 3, 90], [.int .i64, .int .i64, .sl 90], false⟩),
  (195, ⟨3, true, [.int .i64 0, .int .i64 0, .arr (.emp (.vecs 297 2))], none, 0, none, [0, 1, 2], [1, 1, 1], [3, 3, 90], [.int .i64, .int .i64, .sl 90], false⟩),
  (202, ⟨2, true, [.arr (.emp (.ints 3 .i64)), .arr (.emp (.vecs 297 2))], none, 0, none, [0, 1], [1, 1], [24, 90], [.sl 24, .sl 90], false⟩),
  (203, ⟨2, true, [.arr (.emp (.ints 3 .i64)), .arr (.emp (.vecs 297 2))], none, 0, none, [0, 1], [1, 1], [24, 90], [.sl 24, .sl 90], false⟩),
  (204, ⟨2, true, [.arr (.emp (.ints 3 .i64)), .arr (.emp (.vecs 161 2))], none, 0, none, [0, 1], [1, 1], [24, 31], [.sl 24, .sl 31], false⟩),
  (205, ⟨2, true, [.arr (.emp (.ints 3 .i64)), .arr (.emp (.vecs 161 2))], none, 0, none, [0, 1], [1, 1], [24, 31], [.sl 24, .sl 31], false⟩),
  (212, ⟨1, false, [.arr (.emp (.rows 368))], some (.rows 368), 3, none, [], [], [], [.sl 212], false⟩),
  (213, ⟨15, true, [.int .i64 0, .int .i64 0, .int .i64 0, .int .i64 0, .int .i64 0, .int .i64 0, .arr (.emp (.ints 3 .i64)), .arr (.emp (.vecs 225 3)), .arr (.emp (.vecs 161 2)), .arr (.emp (.rows 368)), .bool false, .int .i64 0, .int .i64 0, .int .i64 0, .int .i64 0], none, 0, none, [0, 1, 2, 3, 4, 5, 6, 7, 8, 9, 10, 11], [1, 1, 1, 1, 1, 1, 1, 1, 1, 1, 1, 4], [3, 3, 3, 3, 3, 3, 24, 97, 31, 212, 4, 171], [.int .i64, .int .i64, .int .i64, .int .i64, .int .i64, .int .i64, .sl 24, .sl 97, .sl 31, .sl 212, .bool, .int .i64, .int .i64, .int .i64, .int .i64], false⟩),
  (214, ⟨15, true, [.int .i64 0, .int .i64 0, .int .i64 0, .int .i64 0, .int .i64 0, .int .i64 0, .arr (.emp (.ints 3 .i64)), .arr (.emp (.vecs 225 3)), .arr (.emp (.vecs 161 2)), .arr (.emp (.rows 368)), .bool false, .int .i64 0, .int .i64 0, .int .i64 0, .int .i64 0], none, 0, none, [0, 1, 2, 3, 4, 5, 6, 7, 8, 9, 10, 11], [1, 1, 1, 1, 1, 1, 1, 1, 1, 1, 1, 4], [3, 3, 3, 3, 3, 3, 24, 97, 31, 212, 4, 171], [.int .i64, .int .i64, .int .i64, .int .i64, .int .i64, .int .i64, .sl 24, .sl 97, .sl 31, .sl 212, .bool, .int .i64, .int .i64, .int .i64, .int .i64], false⟩),
  (224, ⟨3, true, [.int .i64 0, .int .i64 0, .int .i64 0], none, 0, none, [0, 1, 2], [1, 1, 1], [3, 3, 3], [.int .i64, .int .i64, .int .i64], true⟩),
  (225, ⟨3, true, [.int .i64 0, .int .i64 0, .int .i64 0], none, 0, none, [0, 1, 2], [1, 1, 1], [3, 3, 3], [.int .i64, .int .i64, .int .i64], true⟩),
  (231, ⟨1, false, [.arr (.emp (.vecs 312 4))], some (.vecs 312 4), 4, none, [], [], [], [.sl 231], false⟩),
  (232, ⟨1, true, [.arr (.emp (.vecs 312 4))], none, 0, none, [0], [1], [231], [.sl 231], false⟩),
  (233, ⟨1, true, [.arr (.emp (.vecs 312 4))], none, 0, none, [0], [1], [231], [.sl 231], false⟩),
  (241, ⟨2, true, [.arr (.emp (.vecs 312 4)), .arr (.emp (.rows 233))], none, 0, none, [0, 1], [1, 1], [231, 117], [.sl 231, .sl 117], false⟩),
  (242, ⟨2, true, [.arr (.emp (.vecs 312 4)), .arr (.emp (.rows 233))], none, 0, none, [0, 1], [1, 1], [231, 117], [.sl 231, .sl 117], false⟩),
  (256, ⟨3, true, [.arr (.emp (.ints 5 .u8)), .int .i64 0, .int .i64 0], none, 0, none, [0, 1, 2], [1, 1, 1], [22, 3, 3], [.sl 22, .int .i64, .int .i64], false⟩),
  (257, ⟨3, true, [.arr (.emp (.ints 5 .u8)), .int .i64 0, .int .i64 0], none, 0, none, [0, 1, 2], [1, 1, 1], [22, 3, 3], [.sl 22, .int .i64, .int .i64], false⟩),
  (262, ⟨1, false, [.int .u64 0], none, 0, none, [], [], [], [.int .u64], false⟩),
  (266, ⟨1, false, [.arr (.emp (.rows 395))], some (.rows 395), 5, none, [], [], [], [.sl 266], false⟩),
  (267, ⟨1, false, [.arr (.emp (.vecs 401 3))], some (.vecs 401 3), 3, none, [], [], [], [.sl 267], false⟩),
  (268, ⟨4, true, [.int .i64 0, .int .i64 0, .int .i64 0, .int .i64 0], none, 0, none, [0, 1, 2, 3], [1, 1, 1, 1], [3, 3, 3, 3], [.int .i64, .int .i64, .int .i64, .int .i64], true⟩),
  (269, ⟨7, true, [.int .i64 0, .int .i64 0, .int .i64 0, .int .i64 0, .int .i64 0, .arr (.emp (.vecs 297 2)), .arr (.emp (.ints 3 .i64))], none, 0, none, [0, 1, 2, 3, 4, 5, 6], [1, 1, 1, 1, 1, 1, 1], [3, 3, 3, 3, 3, 90, 24], [.int .i64, .int .i64, .int .i64, .int .i64, .int .i64, .sl 90, .sl 24], false⟩),
  (270, ⟨7, true, [.int .i64 0, .int .i64 0, .int .i64 0, .int .i64 0, .int .i64 0, .arr (.emp (.vecs 297 2)), .arr (.emp (.ints 3 .i64))], none, 0, none, [0, 1, 2, 3, 4, 5, 6], [1, 1, 1, 1, 1, 1, 1], [3, 3, 3, 3, 3, 90, 24], [.int .i64, .int .i64, .int .i64, .int .i64, .int .i64, .sl 90, .sl 24], false⟩),
  (271, ⟨40, true, [.int .i64 0, .int .i64 0, .int .i64 0, .int .i64 0, .int .i64 0, .int .i64 0, .int .i64 0, .int .i64 0, .int .i64 0, .int .i64 0, .int .i64 0, .bool false, .arr (.emp (.ints 3 .i64)), .arr (.emp (.vecs 297 2)), .arr (.emp (.vecs 297 2)), .arr (.emp (.rows 395)), .arr (.emp (.vecs 401 3)), .arr (.emp (.ints 3 .i64)), .bool false, .int .i64 0, .int .i64 0, .int .i64 0, .int .i64 0, .int .i64 0, .int .i64 0, .int .i64 0, .int .i64 0, .int .i64 0, .arr (.emp (.vecs 297 2)), .arr (.emp (.ints 3 .i64)), .int .i64 0, .int .i64 0, .int .i64 0, .bool false, .arr (.emp (.ints 3 .i64)), .arr (.emp (.vecs 297 2)), .arr (.emp (.vecs 299 3)), .arr (.emp (.ints 3 .i64)), .arr (.emp (.vecs 297 2)), .arr (.emp (.rows 295))], none, 0, none, [0, 1, 2, 3, 4, 5, 6, 7, 8, 9, 10, 11, 12, 13, 14, 15, 16, 17, 18, 19, 23, 30], [1, 1, 1, 1, 1, 1, 1, 1, 1, 1, 1, 1, 1, 1, 1, 1, 1, 1, 1, 4, 7, 10], [3, 3, 3, 3, 3, 3, 3, 3, 3, 3, 3, 4, 24, 90, 90, 266, 267, 24, 4, 268, 270, 94], [.int .i64, .int .i64, .int .i64, .int .i64, .int .i64, .int .i64, .int .i64, .int .i64, .int .i64, .int .i64, .int .i64, .bool, .sl 24, .sl 90, .sl 90, .sl 266, .sl 267, .sl 24, .bool, .int .i64, .int .i64, .int .i64, .int .i64, .int .i64, .int .i64, .int .i64, .int .i64, .int .i64, .sl 90, .sl 24, .int .i64, .int .i64, .int .i64, .bool, .sl 24, .sl 90, .sl 91, .sl 24, .sl 90, .sl 92], false⟩),
  (272, ⟨40, true, [.int .i64 0, .int .i64 0, .int .i64 0, .int .i64 0, .int .i64 0, .int .i64 0, .int .i64 0, .int .i64 0, .int .i64 0, .int .i64 0, .int .i64 0, .bool false, .arr (.emp (.ints 3 .i64)), .arr (.emp (.vecs 297 2)), .arr (.emp (.vecs 297 2)), .arr (.emp (.rows 395)), .arr (.emp (.vecs 401 3)), .arr (.emp (.ints 3 .i64)), .bool false, .int .i64 0, .int .i64 0, .int .i64 0, .int .i64 0, .int .i64 0, .int .i64 0, .int .i64 0, .int .i64 0, .int .i64 0, .arr (.emp (.vecs 297 2)), .arr (.emp (.ints 3 .i64)), .int .i64 0, .int .i64 0, .int .i64 0, .bool false, .arr (.emp (.ints 3 .i64)), .arr (.emp (.vecs 297 2)), .arr (.emp (.vecs 299 3)), .arr (.emp (.ints 3 .i64)), .arr (.emp (.vecs 297 2)), .arr (.emp (.rows 295))], none, 0, none, [0, 1, 2, 3, 4, 5, 6, 7, 8, 9, 10, 11, 12, 13, 14, 15, 16, 17, 18, 19, 23, 30], [1, 1, 1, 1, 1, 1, 1, 1, 1, 1, 1, 1, 1, 1, 1, 1, 1, 1, 1, 4, 7, 10], [3, 3, 3, 3, 3, 3, 3, 3, 3, 3, 3, 4, 24, 90, 90, 266, 267, 24, 4, 268, 270, 94], [.int .i64, .int .i64, .int .i64, .int .i64, .int .i64, .int .i64, .int .i64, .int .i64, .int .i64, .int .i64, .int .i64, .bool, .sl 24, .sl 90, .sl 90, .sl 266, .sl 267, .sl 24, .bool, .int .i64, .int .i64, .int .i64, .int .i64, .int .i64, .int .i64, .int .i64, .int .i64, .int .i64, .sl 90, .sl 24, .int .i64, .int .i64, .int .i64, .bool, .sl 24, .sl 90, .sl 91, .sl 24, .sl 90, .sl 92], false⟩),
  (274, ⟨3, true, [.int .i64 0, .int .i64 0, .int .i64 0], none, 0, none, [0, 1, 2], [1, 1, 1], [3, 3, 3], [.int .i64, .int .i64, .int .i64], true⟩),
  (275, ⟨3, true, [.int .i64 0, .int .i64 0, .int .i64 0], none, 0, none, [0, 1, 2], [1, 1, 1], [3, 3, 3], [.int .i64, .int .i64, .int .i64], true⟩),
  (277, ⟨3, true, [.int .i64 0, .int .i64 0, .int .i64 0], none, 0, none, [0, 1, 2], [1, 1, 1], [3, 3, 3], [.int .i64, .int .i64, .int .i64], true⟩),
  (284, ⟨18, true, [.int .i64 0, .int .i64 0, .int .i64 0, .int .i64 0, .int .i64 0, .arr (.emp (.vecs 297 2)), .bool false, .int .i64 0, .int .i64 0, .int .i64 0, .int .i64 0, .int .i64 0, .int .i64 0, .int .i64 0, .int .i64 0, .int .i64 0, .arr (.emp (.vecs 297 2)), .arr (.emp (.ints 3 .i64))], none, 0, none, [0, 1, 2, 3, 4, 5, 6, 7, 11], [1, 1, 1, 1, 1, 1, 1, 4, 7], [3, 3, 3, 3, 3, 90, 4, 268, 270], [.int .i64, .int .i64, .int .i64, .int .i64, .int .i64, .sl 90, .bool, .int .i64, .int .i64, .int .i64, .int .i64, .int .i64, .int .i64, .int .i64, .int .i64, .int .i64, .sl 90, .sl 24], false⟩),
  (285, ⟨18, true, [.int .i64 0, .int .i64 0, .int .i64 0, .int .i64 0, .int .i64 0, .arr (.emp (.vecs 297 2)), .bool false, .int .i64 0, .int .i64 0, .int .i64 0, .int .i64 0, .int .i64 0, .int .i64 0, .int .i64 0, .int .i64 0, .int .i64 0, .arr (.emp (.vecs 297 2)), .arr (.emp (.ints 3 .i64))], none, 0, none, [0, 1, 2, 3, 4, 5, 6, 7, 11], [1, 1, 1, 1, 1, 1, 1, 4, 7], [3, 3, 3, 3, 3, 90, 4, 268, 270], [.int .i64, .int .i64, .int .i64, .int .i64, .int .i64, .sl 90, .bool, .int .i64, .int .i64, .int .i64, .int .i64, .int .i64, .int .i64, .int .i64, .int .i64, .int .i64, .sl 90, .sl 24], false⟩),
  (286, ⟨3, true, [.int .i64 0, .int .i64 0, .int .i64 0], none, 0, none, [0, 1, 2], [1, 1, 1], [3, 3, 3], [.int .i64, .int .i64, .int .i64], true⟩),
  (287, ⟨3, true, [.int .i64 0, .int .i64 0, .int .i64 0], none, 0, none, [0, 1, 2], [1, 1, 1], [3, 3, 3], [.int .i64, .int .i64, .int .i64], true⟩),
  (293, ⟨1, false, [.arr (.emp (.rows 405))], some (.rows 405), 3, none, [], [], [], [.sl 293], false⟩),
  (294, ⟨15, true, [.int .i64 0, .int .i64 0, .int .i64 0, .int .i64 0, .int .i64 0, .int .i64 0, .arr (.emp (.ints 3 .i64)), .arr (.emp (.vecs 299 3)), .arr (.emp (.vecs 297 2)), .arr (.emp (.rows 405)), .bool false, .int .i64 0, .int .i64 0, .int .i64 0, .int .i64 0], none, 0, none, [0, 1, 2, 3, 4, 5, 6, 7, 8, 9, 10, 11], [1, 1, 1, 1, 1, 1, 1, 1, 1, 1, 1, 4], [3, 3, 3, 3, 3, 3, 24, 91, 90, 293, 4, 268], [.int .i64, .int .i64, .int .i64, .int .i64, .int .i64, .int .i64, .sl 24, .sl 91, .sl 90, .sl 293, .bool, .int .i64, .int .i64, .int .i64, .int .i64], false⟩),
  (295, ⟨15, true, [.int .i64 0, .int .i64 0, .int .i64 0, .int .i64 0, .int .i64 0, .int .i64 0, .arr (.emp (.ints 3 .i64)), .arr (.emp (.vecs 299 3)), .arr (.emp (.vecs 297 2)), .arr (.emp (.rows 405)), .bool false, .int .i64 0, .int .i64 0, .int .i64 0, .int .i64 0], none, 0, none, [0, 1, 2, 3, 4, 5, 6, 7, 8, 9, 10, 11], [1, 1, 1, 1, 1, 1, 1, 1, 1, 1, 1, 4], [3, 3, 3, 3, 3, 3, 24, 91, 90, 293, 4, 268], [.int .i64, .int .i64, .int .i64, .int .i64, .int .i64, .int .i64, .sl 24, .sl 91, .sl 90, .sl 293, .bool, .int .i64, .int .i64, .int .i64, .int .i64], false⟩),
  (297, ⟨2, true, [.int .i64 0, .int .i64 0], none, 0, none, [0, 1], [1, 1], [3, 3], [.int .i64, .int .i64], true⟩),
  (299, ⟨3, true, [.int .i64 0, .int .i64 0, .int .i64 0], none, 0, none, [0, 1, 2], [1, 1, 1], [3, 3, 3], [.int .i64, .int .i64, .int .i64], true⟩),
  (307, ⟨1, false, [.arr (.emp (.vecs 409 4))], some (.vecs 409 4), 4, none, [], [], [], [.sl 307], false⟩),
  (308, ⟨1, true, [.arr (.emp (.vecs 409 4))], none, 0, none, [0], [1], [307], [.sl 307], false⟩),
  (309, ⟨1, true, [.arr (.emp (.vecs 409 4))], none, 0, none, [0], [1], [307], [.sl 307], false⟩),
  (311, ⟨4, true, [.int .i64 0, .int .i64 0, .int .i64 0, .int .i64 0], none, 0, none, [0, 1, 2, 3], [1, 1, 1, 1], [3, 3, 3, 3], [.int .i64, .int .i64, .int .i64, .int .i64], true⟩),
  (312, ⟨4, true, [.int .i64 0, .int .i64 0, .int .i64 0, .int .i64 0], none, 0, none, [0, 1, 2, 3], [1, 1, 1, 1], [3, 3, 3, 3], [.int .i64, .int .i64, .int .i64, .int .i64], true⟩),
  (316, ⟨2, true, [.arr (.emp (.vecs 409 4)), .arr (.emp (.rows 309))], none, 0, none, [0, 1], [1, 1], [307, 112], [.sl 307, .sl 112], false⟩),
  (317, ⟨2, true, [.arr (.emp (.vecs 409 4)), .arr (.emp (.rows 309))], none, 0, none, [0, 1], [1, 1], [307, 112], [.sl 307, .sl 112], false⟩),
  (319, ⟨3, true, [.int .i64 0, .int .i64 0, .int .i64 0], none, 0, none, [0, 1, 2], [1, 1, 1], [3, 3, 3], [.int .i64, .int .i64, .int .i64], true⟩),
  (320, ⟨3, true, [.int .i64 0, .int .i64 0, .int .i64 0], none, 0, none, [0, 1, 2], [1, 1, 1], [3, 3, 3], [.int .i64, .int .i64, .int .i64], true⟩),
  (322, ⟨3, true, [.int .i64 0, .int .i64 0, .int .i64 0], none, 0, none, [0, 1, 2], [1, 1, 1], [3, 3, 3], [.int .i64, .int .i64, .int .i64], true⟩),
  (326, ⟨1, false, [.arr (.emp (.bools 4))], some (.bools 4), 1, none, [], [], [], [.sl 326], false⟩),
  (327, ⟨5, true, [.int .i64 0, .arr (.emp (.ints 3 .i64)), .arr (.emp (.ints 3 .i64)), .arr (.emp (.ints 3 .i64)), .int .i64 0], none, 0, none, [0, 1, 2], [1, 1, 3], [3, 24, 135], [.int .i64, .sl 24, .sl 24, .sl 24, .int .i64], false⟩),
  (328, ⟨5, true, [.int .i64 0, .arr (.emp (.ints 3 .i64)), .arr (.emp (.ints 3 .i64)), .arr (.emp (.ints 3 .i64)), .int .i64 0], none, 0, none, [0, 1, 2], [1, 1, 3], [3, 24, 135], [.int .i64, .sl 24, .sl 24, .sl 24, .int .i64], false⟩),
  (334, ⟨1, false, [.int .i64 0], none, 0, none, [], [], [], [.int .i64], false⟩),
  (341, ⟨1, false, [.int .u32 0], none, 0, none, [], [], [], [.int .u32], false⟩),
  (343, ⟨1, false, [.int .u64 0], none, 0, none, [], [], [], [.int .u64], false⟩),
  (354, ⟨3, true, [.int .i64 0, .int .i64 0, .int .i64 0], none, 0, none, [0, 1, 2], [1, 1, 1], [3, 3, 3], [.int .i64, .int .i64, .int .i64], true⟩),
  (367, ⟨3, true, [.int .i64 0, .int .i64 0, .arr (.emp (.ints 3 .i64))], none, 0, none, [0, 1, 2], [1, 1, 1], [3, 3, 24], [.int .i64, .int .i64, .sl 24], false⟩),
  (368, ⟨3, true, [.int .i64 0, .int .i64 0, .arr (.emp (.ints 3 .i64))], none, 0, none, [0, 1, 2], [1, 1, 1], [3, 3, 24], [.int .i64, .int .i64, .sl 24], false⟩),
  (376, ⟨1, false, [.arr (.emp (.rows 378))], some (.rows 378), 5, none, [], [], [], [.sl 376], false⟩),
  (377, ⟨5, true, [.int .i64 0, .arr (.emp (.ints 3 .i64)), .arr (.emp (.ints 3 .i64)), .arr (.emp (.ints 3 .i64)), .int .i64 0], none, 0, none, [0, 1, 2], [1, 1, 3], [3, 24, 135], [.int .i64, .sl 24, .sl 24, .sl 24, .int .i64], false⟩),
  (378, ⟨5, true, [.int .i64 0, .arr (.emp (.ints 3 .i64)), .arr (.emp (.ints 3 .i64)), .arr (.emp (.ints 3 .i64)), .int .i64 0], none, 0, none, [0, 1, 2], [1, 1, 3], [3, 24, 135], [.int .i64, .sl 24, .sl 24, .sl 24, .int .i64], false⟩),
  (380, ⟨1, false, [.arr (.emp (.rows 382))], some (.rows 382), 5, none, [], [], [], [.sl 380], false⟩),
  (381, ⟨5, true, [.int .i64 0, .arr (.emp (.ints 3 .i64)), .arr (.emp (.ints 3 .i64)), .arr (.emp (.ints 3 .i64)), .int .i64 0], none, 0, none, [0, 1, 2], [1, 1, 3], [3, 24, 135], [.int .i64, .sl 24, .sl 24, .sl 24, .int .i64], false⟩),
  (382, ⟨5, true, [.int .i64 0, .arr (.emp (.ints 3 .i64)), .arr (.emp (.ints 3 .i64)), .arr (.emp (.ints 3 .i64)), .int .i64 0], none, 0, none, [0, 1, 2], [1, 1, 3], [3, 24, 135], [.int .i64, .sl 24, .sl 24, .sl 24, .int .i64], false⟩),
  (385, ⟨1, false, [.int .u64 0], none, 0, none, [], [], [], [.int .u64], false⟩),
  (394, ⟨5, true, [.int .i64 0, .int .i64 0, .int .i64 0, .int .i64 0, .arr (.emp (.ints 3 .i64))], none, 0, none, [0, 1, 2, 3, 4], [1, 1, 1, 1, 1], [3, 3, 3, 3, 24], [.int .i64, .int .i64, .int .i64, .int .i64, .sl 24], false⟩),
  (395, ⟨5, true, [.int .i64 0, .int .i64 0, .int .i64 0, .int .i64 0, .arr (.emp (.ints 3 .i64))], none, 0, none, [0, 1, 2, 3, 4], [1, 1, 1, 1, 1], [3, 3, 3, 3, 24], [.int .i64, .int .i64, .int .i64, .int .i64, .sl 24], false⟩),
  (396, ⟨5, true, [.int .i64 0, .int .i64 0, .int .i64 0, .int .i64 0, .arr (.emp (.ints 3 .i64))], none, 0, none, [0, 1, 2, 3, 4], [1, 1, 1, 1, 1], [3, 3, 3, 3, 24], [.int .i64, .int .i64, .int .i64, .int .i64, .sl 24], false⟩),
  (398, ⟨3, true, [.int .i64 0, .int .i64 0, .int .i64 0], none, 0, none, [0, 1, 2], [1, 1, 1], [3, 3, 3], [.int .i64, .int .i64, .int .i64], true⟩),
  (399, ⟨3, true, [.int .i64 0, .int .i64 0, .int .i64 0], none, 0, none, [0, 1, 2], [1, 1, 1], [3, 3, 3], [.int .i64, .int .i64, .int .i64], true⟩),
  (401, ⟨3, true, [.int .i64 0, .int .i64 0, .int .i64 0], none, 0, none, [0, 1, 2], [1, 1, 1], [3, 3, 3], [.int .i64, .int .i64, .int .i64], true⟩),
  (405, ⟨3, true, [.int .i64 0, .int .i64 0, .arr (.emp (.ints 3 .i64))], none, 0, none, [0, 1, 2], [1, 1, 1], [3, 3, 24], [.int .i64, .int .i64, .sl 24], false⟩),
  (409, ⟨4, true, [.int .i64 0, .int .i64 0, .int .i64 0, .int .i64 0], none, 0, none, [0, 1, 2, 3], [1, 1, 1, 1], [3, 3, 3, 3], [.int .i64, .int .i64, .int .i64, .int .i64], true⟩),
  (423, ⟨1, false, [.int .u8 0], none, 0, none, [], [], [], [.int .u8], false⟩),
  (424, ⟨1, false, [.int .u8 0], none, 0, none, [], [], [], [.int .u8], false⟩),
  (427, ⟨1, false, [.int .i32 0], none, 0, none, [], [], [], [.int .i32], false⟩),
  (428, ⟨1, false, [.int .i32 0], none, 0, none, [], [], [], [.int .i32], false⟩)]
theorem mixed : Try.prog.follows .mixedOrders = true := by kernel_rfl
theorem cx_ok : PM.CxOk Try.prog cx := PM.cxChk_ok (by kernel_rfl)
theorem cx_read : PM.CxRead Try.prog cx := PM.cxRead_ok (by kernel_rfl)

theorem cx_at2 : PM.find cx 2 = some ⟨1, false, [.int .i64 0], none, 0, none, [], [], [], [.int .i64], false⟩ := by kernel_rfl
theorem cx_at3 : PM.find cx 3 = some ⟨1, false, [.int .i64 0], none, 0, none, [], [], [], [.int .i64], false⟩ := by kernel_rfl
theorem cx_at4 : PM.find cx 4 = some ⟨1, false, [.bool false], none, 0, none, [], [], [], [.bool], false⟩ := by kernel_rfl
theorem cx_at5 : PM.find cx 5 = some ⟨1, false, [.int .u8 0], none, 0, none, [], [], [], [.int .u8], false⟩ := by kernel_rfl
theorem cx_at6 : PM.find cx 6 = some ⟨1, false, [.int .u8 0], none, 0, none, [], [], [], [.int .u8], false⟩ := by kernel_rfl
theorem cx_at7 : PM.find cx 7 = some ⟨4, true, [.int .i64 0, .int .i64 0, .bool false, .int .u8 0], none, 0, none, [0, 1, 2, 3], [1, 1, 1, 1], [2, 3, 4, 6], [.int .i64, .int .i64, .bool, .int .u8], true⟩ := by kernel_rfl
theorem cx_at8 : PM.find cx 8 = some ⟨4, true, [.int .i64 0, .int .i64 0, .bool false, .int .u8 0], none, 0, none, [0, 1, 2, 3], [1, 1, 1, 1], [2, 3, 4, 6], [.int .i64, .int .i64, .bool, .int .u8], true⟩ := by kernel_rfl
theorem cx_at12 : PM.find cx 12 = some ⟨1, false, [.int .u64 0], none, 0, none, [], [], [], [.int .u64], false⟩ := by kernel_rfl
theorem cx_at21 : PM.find cx 21 = some ⟨1, false, [.int .i32 0], none, 0, none, [], [], [], [.int .i32], false⟩ := by kernel_rfl
theorem cx_at22 : PM.find cx 22 = some ⟨1, false, [.arr (.emp (.ints 5 .u8))], some (.ints 5 .u8), 1, none, [], [], [], [.sl 22], false⟩ := by kernel_rfl
theorem cx_at24 : PM.find cx 24 = some ⟨1, false, [.arr (.emp (.ints 3 .i64))], some (.ints 3 .i64), 1, none, [], [], [], [.sl 24], false⟩ := by kernel_rfl
theorem cx_at25 : PM.find cx 25 = some ⟨1, false, [.arr (.emp (.rows 33))], some (.rows 33), 3, none, [], [], [], [.sl 25], false⟩ := by kernel_rfl
theorem cx_at31 : PM.find cx 31 = some ⟨1, false, [.arr (.emp (.vecs 161 2))], some (.vecs 161 2), 2, none, [], [], [], [.sl 31], false⟩ := by kernel_rfl
theorem cx_at32 : PM.find cx 32 = some ⟨3, true, [.int .i64 0, .int .i64 0, .arr (.emp (.vecs 161 2))], none, 0, none, [0, 1, 2], [1, 1, 1], [3, 3, 31], [.int .i64, .int .i64, .sl 31], false⟩ := by kernel_rfl
theorem cx_at33 : PM.find cx 33 = some ⟨3, true, [.int .i64 0, .int .i64 0, .arr (.emp (.vecs 161 2))], none, 0, none, [0, 1, 2], [1, 1, 1], [3, 3, 31], [.int .i64, .int .i64, .sl 31], false⟩ := by kernel_rfl
theorem cx_at39 : PM.find cx 39 = some ⟨1, false, [.arr (.emp (.vecs 354 3))], some (.vecs 354 3), 3, none, [], [], [], [.sl 39], false⟩ := by kernel_rfl
theorem cx_at40 : PM.find cx 40 = some ⟨2, true, [.int .i64 0, .arr (.emp (.vecs 354 3))], none, 0, none, [0, 1], [1, 1], [3, 39], [.int .i64, .sl 39], false⟩ := by kernel_rfl
theorem cx_at41 : PM.find cx 41 = some ⟨2, true, [.int .i64 0, .arr (.emp (.vecs 354 3))], none, 0, none, [0, 1], [1, 1], [3, 39], [.int .i64, .sl 39], false⟩ := by kernel_rfl
theorem cx_at42 : PM.find cx 42 = some ⟨2, true, [.arr (.emp (.ints 3 .i64)), .int .i64 0], none, 0, none, [0, 1], [1, 1], [24, 3], [.sl 24, .int .i64], false⟩ := by kernel_rfl
theorem cx_at43 : PM.find cx 43 = some ⟨2, true, [.arr (.emp (.ints 3 .i64)), .int .i64 0], none, 0, none, [0, 1], [1, 1], [24, 3], [.sl 24, .int .i64], false⟩ := by kernel_rfl
theorem cx_at44 : PM.find cx 44 = some ⟨1, false, [.arr (.emp (.vecs 277 3))], some (.vecs 277 3), 3, none, [], [], [], [.sl 44], false⟩ := by kernel_rfl
theorem cx_at45 : PM.find cx 45 = some ⟨1, false, [.arr (.emp (.rows 272))], some (.rows 272), 40, none, [], [], [], [.sl 45], false⟩ := by kernel_rfl
theorem cx_at46 : PM.find cx 46 = some ⟨1, false, [.arr (.emp (.rows 195))], some (.rows 195), 3, none, [], [], [], [.sl 46], false⟩ := by kernel_rfl
theorem cx_at47 : PM.find cx 47 = some ⟨9, true, [.int .i64 0, .int .i64 0, .int .i64 0, .arr (.emp (.vecs 354 3)), .arr (.emp (.ints 3 .i64)), .int .i64 0, .arr (.emp (.vecs 277 3)), .arr (.emp (.rows 272)), .arr (.emp (.rows 195))], none, 0, none, [0, 1, 2, 4, 6, 7, 8], [1, 1, 2, 2, 1, 1, 1], [3, 3, 41, 43, 44, 45, 46], [.int .i64, .int .i64, .int .i64, .sl 39, .sl 24, .int .i64, .sl 44, .sl 45, .sl 46], false⟩ := by kernel_rfl
theorem cx_at48 : PM.find cx 48 = some ⟨9, true, [.int .i64 0, .int .i64 0, .int .i64 0, .arr (.emp (.vecs 354 3)), .arr (.emp (.ints 3 .i64)), .int .i64 0, .arr (.emp (.vecs 277 3)), .arr (.emp (.rows 272)), .arr (.emp (.rows 195))], none, 0, none, [0, 1, 2, 4, 6, 7, 8], [1, 1, 2, 2, 1, 1, 1], [3, 3, 41, 43, 44, 45, 46], [.int .i64, .int .i64, .int .i64, .sl 39, .sl 24, .int .i64, .sl 44, .sl 45, .sl 46], false⟩ := by kernel_rfl
theorem cx_at51 : PM.find cx 51 = some ⟨1, false, [.arr (.emp (.vecs 287 3))], some (.vecs 287 3), 3, none, [], [], [], [.sl 51], false⟩ := by kernel_rfl
theorem cx_at52 : PM.find cx 52 = some ⟨2, true, [.int .i64 0, .arr (.emp (.vecs 287 3))], none, 0, none, [0, 1], [1, 1], [3, 51], [.int .i64, .sl 51], false⟩ := by kernel_rfl
theorem cx_at53 : PM.find cx 53 = some ⟨2, true, [.int .i64 0, .arr (.emp (.vecs 287 3))], none, 0, none, [0, 1], [1, 1], [3, 51], [.int .i64, .sl 51], false⟩ := by kernel_rfl
theorem cx_at54 : PM.find cx 54 = some ⟨2, true, [.arr (.emp (.ints 3 .i64)), .int .i64 0], none, 0, none, [0, 1], [1, 1], [24, 3], [.sl 24, .int .i64], false⟩ := by kernel_rfl
theorem cx_at55 : PM.find cx 55 = some ⟨1, false, [.arr (.emp (.vecs 275 3))], some (.vecs 275 3), 3, none, [], [], [], [.sl 55], false⟩ := by kernel_rfl
theorem cx_at56 : PM.find cx 56 = some ⟨1, false, [.arr (.emp (.rows 175))], some (.rows 175), 40, none, [], [], [], [.sl 56], false⟩ := by kernel_rfl
theorem cx_at57 : PM.find cx 57 = some ⟨9, true, [.int .i64 0, .int .i64 0, .int .i64 0, .arr (.emp (.vecs 287 3)), .arr (.emp (.ints 3 .i64)), .int .i64 0, .arr (.emp (.vecs 275 3)), .arr (.emp (.rows 175)), .arr (.emp (.rows 33))], none, 0, none, [0, 1, 2, 4, 6, 7, 8], [1, 1, 2, 2, 1, 1, 1], [3, 3, 53, 54, 55, 56, 25], [.int .i64, .int .i64, .int .i64, .sl 51, .sl 24, .int .i64, .sl 55, .sl 56, .sl 25], false⟩ := by kernel_rfl
theorem cx_at58 : PM.find cx 58 = some ⟨9, true, [.int .i64 0, .int .i64 0, .int .i64 0, .arr (.emp (.vecs 287 3)), .arr (.emp (.ints 3 .i64)), .int .i64 0, .arr (.emp (.vecs 275 3)), .arr (.emp (.rows 175)), .arr (.emp (.rows 33))], none, 0, none, [0, 1, 2, 4, 6, 7, 8], [1, 1, 2, 2, 1, 1, 1], [3, 3, 53, 54, 55, 56, 25], [.int .i64, .int .i64, .int .i64, .sl 51, .sl 24, .int .i64, .sl 55, .sl 56, .sl 25], false⟩ := by kernel_rfl
theorem cx_at62 : PM.find cx 62 = some ⟨1, false, [.arr (.emp (.rows 285))], some (.rows 285), 18, none, [], [], [], [.sl 62], false⟩ := by kernel_rfl
theorem cx_at63 : PM.find cx 63 = some ⟨4, true, [.int .i64 0, .arr (.emp (.vecs 354 3)), .arr (.emp (.rows 285)), .arr (.emp (.rows 195))], none, 0, none, [0, 2, 3], [2, 1, 1], [41, 62, 46], [.int .i64, .sl 39, .sl 62, .sl 46], false⟩ := by kernel_rfl
theorem cx_at64 : PM.find cx 64 = some ⟨4, true, [.int .i64 0, .arr (.emp (.vecs 354 3)), .arr (.emp (.rows 285)), .arr (.emp (.rows 195))], none, 0, none, [0, 2, 3], [2, 1, 1], [41, 62, 46], [.int .i64, .sl 39, .sl 62, .sl 46], false⟩ := by kernel_rfl
theorem cx_at68 : PM.find cx 68 = some ⟨1, false, [.arr (.emp (.rows 189))], some (.rows 189), 18, none, [], [], [], [.sl 68], false⟩ := by kernel_rfl
theorem cx_at69 : PM.find cx 69 = some ⟨4, true, [.int .i64 0, .arr (.emp (.vecs 287 3)), .arr (.emp (.rows 189)), .arr (.emp (.rows 33))], none, 0, none, [0, 2, 3], [2, 1, 1], [53, 68, 25], [.int .i64, .sl 51, .sl 68, .sl 25], false⟩ := by kernel_rfl
theorem cx_at70 : PM.find cx 70 = some ⟨4, true, [.int .i64 0, .arr (.emp (.vecs 287 3)), .arr (.emp (.rows 189)), .arr (.emp (.rows 33))], none, 0, none, [0, 2, 3], [2, 1, 1], [53, 68, 25], [.int .i64, .sl 51, .sl 68, .sl 25], false⟩ := by kernel_rfl
theorem cx_at78 : PM.find cx 78 = some ⟨1, false, [.arr (.emp (.rows 203))], some (.rows 203), 2, none, [], [], [], [.sl 78], false⟩ := by kernel_rfl
theorem cx_at81 : PM.find cx 81 = some ⟨1, false, [.arr (.emp (.rows 205))], some (.rows 205), 2, none, [], [], [], [.sl 81], false⟩ := by kernel_rfl
theorem cx_at90 : PM.find cx 90 = some ⟨1, false, [.arr (.emp (.vecs 297 2))], some (.vecs 297 2), 2, none, [], [], [], [.sl 90], false⟩ := by kernel_rfl
theorem cx_at91 : PM.find cx 91 = some ⟨1, false, [.arr (.emp (.vecs 299 3))], some (.vecs 299 3), 3, none, [], [], [], [.sl 91], false⟩ := by kernel_rfl
theorem cx_at92 : PM.find cx 92 = some ⟨1, false, [.arr (.emp (.rows 295))], some (.rows 295), 15, none, [], [], [], [.sl 92], false⟩ := by kernel_rfl
theorem cx_at93 : PM.find cx 93 = some ⟨10, true, [.int .i64 0, .int .i64 0, .int .i64 0, .bool false, .arr (.emp (.ints 3 .i64)), .arr (.emp (.vecs 297 2)), .arr (.emp (.vecs 299 3)), .arr (.emp (.ints 3 .i64)), .arr (.emp (.vecs 297 2)), .arr (.emp (.rows 295))], none, 0, none, [0, 1, 2, 3, 4, 5, 6, 7, 8, 9], [1, 1, 1, 1, 1, 1, 1, 1, 1, 1], [3, 3, 3, 4, 24, 90, 91, 24, 90, 92], [.int .i64, .int .i64, .int .i64, .bool, .sl 24, .sl 90, .sl 91, .sl 24, .sl 90, .sl 92], false⟩ := by kernel_rfl
theorem cx_at94 : PM.find cx 94 = some ⟨10, true, [.int .i64 0, .int .i64 0, .int .i64 0, .bool false, .arr (.emp (.ints 3 .i64)), .arr (.emp (.vecs 297 2)), .arr (.emp (.vecs 299 3)), .arr (.emp (.ints 3 .i64)), .arr (.emp (.vecs 297 2)), .arr (.emp (.rows 295))], none, 0, none, [0, 1, 2, 3, 4, 5, 6, 7, 8, 9], [1, 1, 1, 1, 1, 1, 1, 1, 1, 1], [3, 3, 3, 4, 24, 90, 91, 24, 90, 92], [.int .i64, .int .i64, .int .i64, .bool, .sl 24, .sl 90, .sl 91, .sl 24, .sl 90, .sl 92], false⟩ := by kernel_rfl
theorem cx_at97 : PM.find cx 97 = some ⟨1, false, [.arr (.emp (.vecs 225 3))], some (.vecs 225 3), 3, none, [], [], [], [.sl 97], false⟩ := by kernel_rfl
theorem cx_at98 : PM.find cx 98 = some ⟨1, false, [.arr (.emp (.rows 214))], some (.rows 214), 15, none, [], [], [], [.sl 98], false⟩ := by kernel_rfl
theorem cx_at99 : PM.find cx 99 = some ⟨10, true, [.int .i64 0, .int .i64 0, .int .i64 0, .bool false, .arr (.emp (.ints 3 .i64)), .arr (.emp (.vecs 161 2)), .arr (.emp (.vecs 225 3)), .arr (.emp (.ints 3 .i64)), .arr (.emp (.vecs 161 2)), .arr (.emp (.rows 214))], none, 0, none, [0, 1, 2, 3, 4, 5, 6, 7, 8, 9], [1, 1, 1, 1, 1, 1, 1, 1, 1, 1], [3, 3, 3, 4, 24, 31, 97, 24, 31, 98], [.int .i64, .int .i64, .int .i64, .bool, .sl 24, .sl 31, .sl 97, .sl 24, .sl 31, .sl 98], false⟩ := by kernel_rfl
theorem cx_at100 : PM.find cx 100 = some ⟨10, true, [.int .i64 0, .int .i64 0, .int .i64 0, .bool false, .arr (.emp (.ints 3 .i64)), .arr (.emp (.vecs 161 2)), .arr (.emp (.vecs 225 3)), .arr (.emp (.ints 3 .i64)), .arr (.emp (.vecs 161 2)), .arr (.emp (.rows 214))], none, 0, none, [0, 1, 2, 3, 4, 5, 6, 7, 8, 9], [1, 1, 1, 1, 1, 1, 1, 1, 1, 1], [3, 3, 3, 4, 24, 31, 97, 24, 31, 98], [.int .i64, .int .i64, .int .i64, .bool, .sl 24, .sl 31, .sl 97, .sl 24, .sl 31, .sl 98], false⟩ := by kernel_rfl
theorem cx_at112 : PM.find cx 112 = some ⟨1, false, [.arr (.emp (.rows 309))], some (.rows 309), 1, none, [], [], [], [.sl 112], false⟩ := by kernel_rfl
theorem cx_at113 : PM.find cx 113 = some ⟨5, true, [.arr (.emp (.ints 3 .i64)), .arr (.emp (.ints 3 .i64)), .arr (.emp (.vecs 297 2)), .arr (.emp (.rows 309)), .arr (.emp (.ints 3 .i64))], none, 0, none, [0, 1, 2, 3, 4], [1, 1, 1, 1, 1], [24, 24, 90, 112, 24], [.sl 24, .sl 24, .sl 90, .sl 112, .sl 24], false⟩ := by kernel_rfl
theorem cx_at114 : PM.find cx 114 = some ⟨5, true, [.arr (.emp (.ints 3 .i64)), .arr (.emp (.ints 3 .i64)), .arr (.emp (.vecs 297 2)), .arr (.emp (.rows 309)), .arr (.emp (.ints 3 .i64))], none, 0, none, [0, 1, 2, 3, 4], [1, 1, 1, 1, 1], [24, 24, 90, 112, 24], [.sl 24, .sl 24, .sl 90, .sl 112, .sl 24], false⟩ := by kernel_rfl
theorem cx_at117 : PM.find cx 117 = some ⟨1, false, [.arr (.emp (.rows 233))], some (.rows 233), 1, none, [], [], [], [.sl 117], false⟩ := by kernel_rfl
theorem cx_at118 : PM.find cx 118 = some ⟨5, true, [.arr (.emp (.ints 3 .i64)), .arr (.emp (.ints 3 .i64)), .arr (.emp (.vecs 161 2)), .arr (.emp (.rows 233)), .arr (.emp (.ints 3 .i64))], none, 0, none, [0, 1, 2, 3, 4], [1, 1, 1, 1, 1], [24, 24, 31, 117, 24], [.sl 24, .sl 24, .sl 31, .sl 117, .sl 24], false⟩ := by kernel_rfl
theorem cx_at119 : PM.find cx 119 = some ⟨5, true, [.arr (.emp (.ints 3 .i64)), .arr (.emp (.ints 3 .i64)), .arr (.emp (.vecs 161 2)), .arr (.emp (.rows 233)), .arr (.emp (.ints 3 .i64))], none, 0, none, [0, 1, 2, 3, 4], [1, 1, 1, 1, 1], [24, 24, 31, 117, 24], [.sl 24, .sl 24, .sl 31, .sl 117, .sl 24], false⟩ := by kernel_rfl
theorem cx_at127 : PM.find cx 127 = some ⟨3, true, [.arr (.emp (.ints 3 .i64)), .arr (.emp (.ints 3 .i64)), .int .i64 0], none, 0, none, [0, 1, 2], [1, 1, 1], [24, 24, 3], [.sl 24, .sl 24, .int .i64], false⟩ := by kernel_rfl
theorem cx_at128 : PM.find cx 128 = some ⟨3, true, [.arr (.emp (.ints 3 .i64)), .arr (.emp (.ints 3 .i64)), .int .i64 0], none, 0, none, [0, 1, 2], [1, 1, 1], [24, 24, 3], [.sl 24, .sl 24, .int .i64], false⟩ := by kernel_rfl
theorem cx_at129 : PM.find cx 129 = some ⟨1, false, [.arr (.emp (.rows 317))], some (.rows 317), 2, none, [], [], [], [.sl 129], false⟩ := by kernel_rfl
theorem cx_at130 : PM.find cx 130 = some ⟨1, false, [.arr (.emp (.vecs 322 3))], some (.vecs 322 3), 3, none, [], [], [], [.sl 130], false⟩ := by kernel_rfl
theorem cx_at131 : PM.find cx 131 = some ⟨5, true, [.arr (.emp (.ints 3 .i64)), .arr (.emp (.ints 3 .i64)), .int .i64 0, .arr (.emp (.rows 317)), .arr (.emp (.vecs 322 3))], none, 0, none, [0, 3, 4], [3, 1, 1], [128, 129, 130], [.sl 24, .sl 24, .int .i64, .sl 129, .sl 130], false⟩ := by kernel_rfl
theorem cx_at132 : PM.find cx 132 = some ⟨5, true, [.arr (.emp (.ints 3 .i64)), .arr (.emp (.ints 3 .i64)), .int .i64 0, .arr (.emp (.rows 317)), .arr (.emp (.vecs 322 3))], none, 0, none, [0, 3, 4], [3, 1, 1], [128, 129, 130], [.sl 24, .sl 24, .int .i64, .sl 129, .sl 130], false⟩ := by kernel_rfl
theorem cx_at135 : PM.find cx 135 = some ⟨3, true, [.arr (.emp (.ints 3 .i64)), .arr (.emp (.ints 3 .i64)), .int .i64 0], none, 0, none, [0, 1, 2], [1, 1, 1], [24, 24, 3], [.sl 24, .sl 24, .int .i64], false⟩ := by kernel_rfl
theorem cx_at136 : PM.find cx 136 = some ⟨1, false, [.arr (.emp (.rows 242))], some (.rows 242), 2, none, [], [], [], [.sl 136], false⟩ := by kernel_rfl
theorem cx_at137 : PM.find cx 137 = some ⟨1, false, [.arr (.emp (.vecs 320 3))], some (.vecs 320 3), 3, none, [], [], [], [.sl 137], false⟩ := by kernel_rfl
theorem cx_at138 : PM.find cx 138 = some ⟨5, true, [.arr (.emp (.ints 3 .i64)), .arr (.emp (.ints 3 .i64)), .int .i64 0, .arr (.emp (.rows 242)), .arr (.emp (.vecs 320 3))], none, 0, none, [0, 3, 4], [3, 1, 1], [135, 136, 137], [.sl 24, .sl 24, .int .i64, .sl 136, .sl 137], false⟩ := by kernel_rfl
theorem cx_at139 : PM.find cx 139 = some ⟨5, true, [.arr (.emp (.ints 3 .i64)), .arr (.emp (.ints 3 .i64)), .int .i64 0, .arr (.emp (.rows 242)), .arr (.emp (.vecs 320 3))], none, 0, none, [0, 3, 4], [3, 1, 1], [135, 136, 137], [.sl 24, .sl 24, .int .i64, .sl 136, .sl 137], false⟩ := by kernel_rfl
theorem cx_at160 : PM.find cx 160 = some ⟨2, true, [.int .i64 0, .int .i64 0], none, 0, none, [0, 1], [1, 1], [3, 3], [.int .i64, .int .i64], true⟩ := by kernel_rfl
theorem cx_at161 : PM.find cx 161 = some ⟨2, true, [.int .i64 0, .int .i64 0], none, 0, none, [0, 1], [1, 1], [3, 3], [.int .i64, .int .i64], true⟩ := by kernel_rfl
theorem cx_at168 : PM.find cx 168 = some ⟨1, false, [.arr (.emp (.rows 396))], some (.rows 396), 5, none, [], [], [], [.sl 168], false⟩ := by kernel_rfl
theorem cx_at169 : PM.find cx 169 = some ⟨1, false, [.arr (.emp (.vecs 399 3))], some (.vecs 399 3), 3, none, [], [], [], [.sl 169], false⟩ := by kernel_rfl
theorem cx_at170 : PM.find cx 170 = some ⟨4, true, [.int .i64 0, .int .i64 0, .int .i64 0, .int .i64 0], none, 0, none, [0, 1, 2, 3], [1, 1, 1, 1], [3, 3, 3, 3], [.int .i64, .int .i64, .int .i64, .int .i64], true⟩ := by kernel_rfl
theorem cx_at171 : PM.find cx 171 = some ⟨4, true, [.int .i64 0, .int .i64 0, .int .i64 0, .int .i64 0], none, 0, none, [0, 1, 2, 3], [1, 1, 1, 1], [3, 3, 3, 3], [.int .i64, .int .i64, .int .i64, .int .i64], true⟩ := by kernel_rfl
theorem cx_at172 : PM.find cx 172 = some ⟨7, true, [.int .i64 0, .int .i64 0, .int .i64 0, .int .i64 0, .int .i64 0, .arr (.emp (.vecs 161 2)), .arr (.emp (.ints 3 .i64))], none, 0, none, [0, 1, 2, 3, 4, 5, 6], [1, 1, 1, 1, 1, 1, 1], [3, 3, 3, 3, 3, 31, 24], [.int .i64, .int .i64, .int .i64, .int .i64, .int .i64, .sl 31, .sl 24], false⟩ := by kernel_rfl
theorem cx_at173 : PM.find cx 173 = some ⟨7, true, [.int .i64 0, .int .i64 0, .int .i64 0, .int .i64 0, .int .i64 0, .arr (.emp (.vecs 161 2)), .arr (.emp (.ints 3 .i64))], none, 0, none, [0, 1, 2, 3, 4, 5, 6], [1, 1, 1, 1, 1, 1, 1], [3, 3, 3, 3, 3, 31, 24], [.int .i64, .int .i64, .int .i64, .int .i64, .int .i64, .sl 31, .sl 24], false⟩ := by kernel_rfl
theorem cx_at174 : PM.find cx 174 = some ⟨40, true, [.int .i64 0, .int .i64 0, .int .i64 0, .int .i64 0, .int .i64 0, .int .i64 0, .int .i64 0, .int .i64 0, .int .i64 0, .int .i64 0, .int .i64 0, .bool false, .arr (.emp (.ints 3 .i64)), .arr (.emp (.vecs 161 2)), .arr (.emp (.vecs 161 2)), .arr (.emp (.rows 396)), .arr (.emp (.vecs 399 3)), .arr (.emp (.ints 3 .i64)), .bool false, .int .i64 0, .int .i64 0, .int .i64 0, .int .i64 0, .int .i64 0, .int .i64 0, .int .i64 0, .int .i64 0, .int .i64 0, .arr (.emp (.vecs 161 2)), .arr (.emp (.ints 3 .i64)), .int .i64 0, .int .i64 0, .int .i64 0, .bool false, .arr (.emp (.ints 3 .i64)), .arr (.emp (.vecs 161 2)), .arr (.emp (.vecs 225 3)), .arr (.emp (.ints 3 .i64)), .arr (.emp (.vecs 161 2)), .arr (.emp (.rows 214))], none, 0, none, [0, 1, 2, 3, 4, 5, 6, 7, 8, 9, 10, 11, 12, 13, 14, 15, 16, 17, 18, 19, 23, 30], [1, 1, 1, 1, 1, 1, 1, 1, 1, 1, 1, 1, 1, 1, 1, 1, 1, 1, 1, 4, 7, 10], [3, 3, 3, 3, 3, 3, 3, 3, 3, 3, 3, 4, 24, 31, 31, 168, 169, 24, 4, 171, 173, 100], [.int .i64, .int .i64, .int .i64, .int .i64, .int .i64, .int .i64, .int .i64, .int .i64, .int .i64, .int .i64, .int .i64, .bool, .sl 24, .sl 31, .sl 31, .sl 168, .sl 169, .sl 24, .bool, .int .i64, .int .i64, .int .i64, .int .i64, .int .i64, .int .i64, .int .i64, .int .i64, .int .i64, .sl 31, .sl 24, .int .i64, .int .i64, .int .i64, .bool, .sl 24, .sl 31, .sl 97, .sl 24, .sl 31, .sl 98], false⟩ := by kernel_rfl
theorem cx_at175 : PM.find cx 175 = some ⟨40, true, [.int .i64 0, .int .i64 0, .int .i64 0, .int .i64 0, .int .i64 0, .int .i64 0, .int .i64 0, .int .i64 0, .int .i64 0, .int .i64 0, .int .i64 0, .bool false, .arr (.emp (.ints 3 .i64)), .arr (.emp (.vecs 161 2)), .arr (.emp (.vecs 161 2)), .arr (.emp (.rows 396)), .arr (.emp (.vecs 399 3)), .arr (.emp (.ints 3 .i64)), .bool false, .int .i64 0, .int .i64 0, .int .i64 0, .int .i64 0, .int .i64 0, .int .i64 0, .int .i64 0, .int .i64 0, .int .i64 0, .arr (.emp (.vecs 161 2)), .arr (.emp (.ints 3 .i64)), .int .i64 0, .int .i64 0, .int .i64 0, .bool false, .arr (.emp (.ints 3 .i64)), .arr (.emp (.vecs 161 2)), .arr (.emp (.vecs 225 3)), .arr (.emp (.ints 3 .i64)), .arr (.emp (.vecs 161 2)), .arr (.emp (.rows 214))], none, 0, none, [0, 1, 2, 3, 4, 5, 6, 7, 8, 9, 10, 11, 12, 13, 14, 15, 16, 17, 18, 19, 23, 30], [1, 1, 1, 1, 1, 1, 1, 1, 1, 1, 1, 1, 1, 1, 1, 1, 1, 1, 1, 4, 7, 10], [3, 3, 3, 3, 3, 3, 3, 3, 3, 3, 3, 4, 24, 31, 31, 168, 169, 24, 4, 171, 173, 100], [.int .i64, .int .i64, .int .i64, .int .i64, .int .i64, .int .i64, .int .i64, .int .i64, .int .i64, .int .i64, .int .i64, .bool, .sl 24, .sl 31, .sl 31, .sl 168, .sl 169, .sl 24, .bool, .int .i64, .int .i64, .int .i64, .int .i64, .int .i64, .int .i64, .int .i64, .int .i64, .int .i64, .sl 31, .sl 24, .int .i64, .int .i64, .int .i64, .bool, .sl 24, .sl 31, .sl 97, .sl 24, .sl 31, .sl 98], false⟩ := by kernel_rfl
theorem cx_at188 : PM.find cx 188 = some ⟨18, true, [.int .i64 0, .int .i64 0, .int .i64 0, .int .i64 0, .int .i64 0, .arr (.emp (.vecs 161 2)), .bool false, .int .i64 0, .int .i64 0, .int .i64 0, .int .i64 0, .int .i64 0, .int .i64 0, .int .i64 0, .int .i64 0, .int .i64 0, .arr (.emp (.vecs 161 2)), .arr (.emp (.ints 3 .i64))], none, 0, none, [0, 1, 2, 3, 4, 5, 6, 7, 11], [1, 1, 1, 1, 1, 1, 1, 4, 7], [3, 3, 3, 3, 3, 31, 4, 171, 173], [.int .i64, .int .i64, .int .i64, .int .i64, .int .i64, .sl 31, .bool, .int .i64, .int .i64, .int .i64, .int .i64, .int .i64, .int .i64, .int .i64, .int .i64, .int .i64, .sl 31, .sl 24], false⟩ := by kernel_rfl
theorem cx_at189 : PM.find cx 189 = some ⟨18, true, [.int .i64 0, .int .i64 0, .int .i64 0, .int .i64 0, .int .i64 0, .arr (.emp (.vecs 161 2)), .bool false, .int .i64 0, .int .i64 0, .int .i64 0, .int .i64 0, .int .i64 0, .int .i64 0, .int .i64 0, .int .i64 0, .int .i64 0, .arr (.emp (.vecs 161 2)), .arr (.emp (.ints 3 .i64))], none, 0, none, [0, 1, 2, 3, 4, 5, 6, 7, 11], [1, 1, 1, 1, 1, 1, 1, 4, 7], [3, 3, 3, 3, 3, 31, 4, 171, 173], [.int .i64, .int .i64, .int .i64, .int .i64, .int .i64, .sl 31, .bool, .int .i64, .int .i64, .int .i64, .int .i64, .int .i64, .int .i64, .int .i64, .int .i64, .int .i64, .sl 31, .sl 24], false⟩ := by kernel_rfl
theorem cx_at194 : PM.find cx 194 = some ⟨3, true, [.int .i64 0, .int .i64 0, .arr (.emp (.vecs 297 2))], none, 0, none, [0, 1, 2], [1, 1, 1], [3, 3, 90], [.int .i64, .int .i64, .sl 90], false⟩ := by kernel_rfl
theorem cx_at195 : PM.find cx 195 = some ⟨3, true, [.int .i64 0, .int .i64 0, .arr (.emp (.vecs 297 2))], none, 0, none, [0, 1, 2], [1, 1, 1], [3, 3, 90], [.int .i64, .int .i64, .sl 90], false⟩ := by kernel_rfl
theorem cx_at202 : PM.find cx 202 = some ⟨2, true, [.arr (.emp (.ints 3 .i64)), .arr (.emp (.vecs 297 2))], none, 0, none, [0, 1], [1, 1], [24, 90], [.sl 24, .sl 90], false⟩ := by kernel_rfl
theorem cx_at203 : PM.find cx 203 = some ⟨2, true, [.arr (.emp (.ints 3 .i64)), .arr (.emp (.vecs 297 2))], none, 0, none, [0, 1], [1, 1], [24, 90], [.sl 24, .sl 90], false⟩ := by kernel_rfl
theorem cx_at204 : PM.find cx 204 = some ⟨2, true, [.arr (.emp (.ints 3 .i64)), .arr (.emp (.vecs 161 2))], none, 0, none, [0, 1], [1, 1], [24, 31], [.sl 24, .sl 31], false⟩ := by kernel_rfl
theorem cx_at205 : PM.find cx 205 = some ⟨2, true, [.arr (.emp (.ints 3 .i64)), .arr (.emp (.vecs 161 2))], none, 0, none, [0, 1], [1, 1], [24, 31], [.sl 24, .sl 31], false⟩ := by kernel_rfl
theorem cx_at212 : PM.find cx 212 = some ⟨1, false, [.arr (.emp (.rows 368))], some (.rows 368), 3, none, [], [], [], [.sl 212], false⟩ := by kernel_rfl
theorem cx_at213 : PM.find cx 213 = some ⟨15, true, [.int .i64 0, .int .i64 0, .int .i64 0, .int .i64 0, .int .i64 0, .int .i64 0, .arr (.emp (.ints 3 .i64)), .arr (.emp (.vecs 225 3)), .arr (.emp (.vecs 161 2)), .arr (.emp (.rows 368)), .bool false, .int .i64 0, .int .i64 0, .int .i64 0, .int .i64 0], none, 0, none, [0, 1, 2, 3, 4, 5, 6, 7, 8, 9, 10, 11], [1, 1, 1, 1, 1, 1, 1, 1, 1, 1, 1, 4], [3, 3, 3, 3, 3, 3, 24, 97, 31, 212, 4, 171], [.int .i64, .int .i64, .int .i64, .int .i64, .int .i64, .int .i64, .sl 24, .sl 97, .sl 31, .sl 212, .bool, .int .i64, .int .i64, .int .i64, .int .i64], false⟩ := by kernel_rfl
theorem cx_at214 : PM.find cx 214 = some ⟨15, true, [.int .i64 0, .int .i64 0, .int .i64 0, .int .i64 0, .int .i64 0, .int .i64 0, .arr (.emp (.ints 3 .i64)), .arr (.emp (.vecs 225 3)), .arr (.emp (.vecs 161 2)), .arr (.emp (.rows 368)), .bool false, .int .i64 0, .int .i64 0, .int .i64 0, .int .i64 0], none, 0, none, [0, 1, 2, 3, 4, 5, 6, 7, 8, 9, 10, 11], [1, 1, 1, 1, 1, 1, 1, 1, 1, 1, 1, 4], [3, 3, 3, 3, 3, 3, 24, 97, 31, 212, 4, 171], [.int .i64, .int .i64, .int .i64, .int .i64, .int .i64, .int .i64, .sl 24, .sl 97, .sl 31, .sl 212, .bool, .int .i64, .int .i64, .int .i64, .int .i64], false⟩ := by kernel_rfl
theorem cx_at224 : PM.find cx 224 = some ⟨3, true, [.int .i64 0, .int .i64 0, .int .i64 0], none, 0, none, [0, 1, 2], [1, 1, 1], [3, 3, 3], [.int .i64, .int .i64, .int .i64], true⟩ := by kernel_rfl
theorem cx_at225 : PM.find cx 225 = some ⟨3, true, [.int .i64 0, .int .i64 0, .int .i64 0], none, 0, none, [0, 1, 2], [1, 1, 1], [3, 3, 3], [.int .i64, .int .i64, .int .i64], true⟩ := by kernel_rfl
theorem cx_at231 : PM.find cx 231 = some ⟨1, false, [.arr (.emp (.vecs 312 4))], some (.vecs 312 4), 4, none, [], [], [], [.sl 231], false⟩ := by kernel_rfl
theorem cx_at232 : PM.find cx 232 = some ⟨1, true, [.arr (.emp (.vecs 312 4))], none, 0, none, [0], [1], [231], [.sl 231], false⟩ := by kernel_rfl
theorem cx_at233 : PM.find cx 233 = some ⟨1, true, [.arr (.emp (.vecs 312 4))], none, 0, none, [0], [1], [231], [.sl 231], false⟩ := by kernel_rfl
theorem cx_at241 : PM.find cx 241 = some ⟨2, true, [.arr (.emp (.vecs 312 4)), .arr (.emp (.rows 233))], none, 0, none, [0, 1], [1, 1], [231, 117], [.sl 231, .sl 117], false⟩ := by kernel_rfl
theorem cx_at242 : PM.find cx 242 = some ⟨2, true, [.arr (.emp (.vecs 312 4)), .arr (.emp (.rows 233))], none, 0, none, [0, 1], [1, 1], [231, 117], [.sl 231, .sl 117], false⟩ := by kernel_rfl
theorem cx_at256 : PM.find cx 256 = some ⟨3, true, [.arr (.emp (.ints 5 .u8)), .int .i64 0, .int .i64 0], none, 0, none, [0, 1, 2], [1, 1, 1], [22, 3, 3], [.sl 22, .int .i64, .int .i64], false⟩ := by kernel_rfl
theorem cx_at257 : PM.find cx 257 = some ⟨3, true, [.arr (.emp (.ints 5 .u8)), .int .i64 0, .int .i64 0], none, 0, none, [0, 1, 2], [1, 1, 1], [22, 3, 3], [.sl 22, .int .i64, .int .i64], false⟩ := by kernel_rfl
theorem cx_at262 : PM.find cx 262 = some ⟨1, false, [.int .u64 0], none, 0, none, [], [], [], [.int .u64], false⟩ := by kernel_rfl
theorem cx_at266 : PM.find cx 266 = some ⟨1, false, [.arr (.emp (.rows 395))], some (.rows 395), 5, none, [], [], [], [.sl 266], false⟩ := by kernel_rfl
theorem cx_at267 : PM.find cx 267 = some ⟨1, false, [.arr (.emp (.vecs 401 3))], some (.vecs 401 3), 3, none, [], [], [], [.sl 267], false⟩ := by kernel_rfl
theorem cx_at268 : PM.find cx 268 = some ⟨4, true, [.int .i64 0, .int .i64 0, .int .i64 0, .int .i64 0], none, 0, none, [0, 1, 2, 3], [1, 1, 1, 1], [3, 3, 3, 3], [.int .i64, .int .i64, .int .i64, .int .i64], true⟩ := by kernel_rfl
theorem cx_at269 : PM.find cx 269 = some ⟨7, true, [.int .i64 0, .int .i64 0, .int .i64 0, .int .i64 0, .int .i64 0, .arr (.emp (.vecs 297 2)), .arr (.emp (.ints 3 .i64))], none, 0, none, [0, 1, 2, 3, 4, 5, 6], [1, 1, 1, 1, 1, 1, 1], [3, 3, 3, 3, 3, 90, 24], [.int .i64, .int .i64, .int .i64, .int .i64, .int .i64, .sl 90, .sl 24], false⟩ := by kernel_rfl
theorem cx_at270 : PM.find cx 270 = some ⟨7, true, [.int .i64 0, .int .i64 0, .int .i64 0, .int .i64 0, .int .i64 0, .arr (.emp (.vecs 297 2)), .arr (.emp (.ints 3 .i64))], none, 0, none, [0, 1, 2, 3, 4, 5, 6], [1, 1, 1, 1, 1, 1, 1], [3, 3, 3, 3, 3, 90, 24], [.int .i64, .int .i64, .int .i64, .int .i64, .int .i64, .sl 90, .sl 24], false⟩ := by kernel_rfl
theorem cx_at271 : PM.find cx 271 = some ⟨40, true, [.int .i64 0, .int .i64 0, .int .i64 0, .int .i64 0, .int .i64 0, .int .i64 0, .int .i64 0, .int .i64 0, .int .i64 0, .int .i64 0, .int .i64 0, .bool false, .arr (.emp (.ints 3 .i64)), .arr (.emp (.vecs 297 2)), .arr (.emp (.vecs 297 2)), .arr (.emp (.rows 395)), .arr (.emp (.vecs 401 3)), .arr (.emp (.ints 3 .i64)), .bool false, .int .i64 0, .int .i64 0, .int .i64 0, .int .i64 0, .int .i64 0, .int .i64 0, .int .i64 0, .int .i64 0, .int .i64 0, .arr (.emp (.vecs 297 2)), .arr (.emp (.ints 3 .i64)), .int .i64 0, .int .i64 0, .int .i64 0, .bool false, .arr (.emp (.ints 3 .i64)), .arr (.emp (.vecs 297 2)), .arr (.emp (.vecs 299 3)), .arr (.emp (.ints 3 .i64)), .arr (.emp (.vecs 297 2)), .arr (.emp (.rows 295))], none, 0, none, [0, 1, 2, 3, 4, 5, 6, 7, 8, 9, 10, 11, 12, 13, 14, 15, 16, 17, 18, 19, 23, 30], [1, 1, 1, 1, 1, 1, 1, 1, 1, 1, 1, 1, 1, 1, 1, 1, 1, 1, 1, 4, 7, 10], [3, 3, 3, 3, 3, 3, 3, 3, 3, 3, 3, 4, 24, 90, 90, 266, 267, 24, 4, 268, 270, 94], [.int .i64, .int .i64, .int .i64, .int .i64, .int .i64, .int .i64, .int .i64, .int .i64, .int .i64, .int .i64, .int .i64, .bool, .sl 24, .sl 90, .sl 90, .sl 266, .sl 267, .sl 24, .bool, .int .i64, .int .i64, .int .i64, .int .i64, .int .i64, .int .i64, .int .i64, .int .i64, .int .i64, .sl 90, .sl 24, .int .i64, .int .i64, .int .i64, .bool, .sl 24, .sl 90, .sl 91, .sl 24, .sl 90, .sl 92], false⟩ := by kernel_rfl
theorem cx_at272 : PM.find cx 272 = some ⟨40, true, [.int .i64 0, .int .i64 0, .int .i64 0, .int .i64 0, .int .i64 0, .int .i64 0, .int .i64 0, .int .i64 0, .int .i64 0, .int .i64 0, .int .i64 0, .bool false, .arr (.emp (.ints 3 .i64)), .arr (.emp (.vecs 297 2)), .arr (.emp (.vecs 297 2)), .arr (.emp (.rows 395)), .arr (.emp (.vecs 401 3)), .arr (.emp (.ints 3 .i64)), .bool false, .int .i64 0, .int .i64 0, .int .i64 0, .int .i64 0, .int .i64 0, .int .i64 0, .int .i64 0, .int .i64 0, .int .i64 0, .arr (.emp (.vecs 297 2)), .arr (.emp (.ints 3 .i64)), .int .i64 0, .int .i64 0, .int .i64 0, .bool false, .arr (.emp (.ints 3 .i64)), .arr (.emp (.vecs 297 2)), .arr (.emp (.vecs 299 3)), .arr (.emp (.ints 3 .i64)), .arr (.emp (.vecs 297 2)), .arr (.emp (.rows 295))], none, 0, none, [0, 1, 2, 3, 4, 5, 6, 7, 8, 9, 10, 11, 12, 13, 14, 15, 16, 17, 18, 19, 23, 30], [1, 1, 1, 1, 1, 1, 1, 1, 1, 1, 1, 1, 1, 1, 1, 1, 1, 1, 1, 4, 7, 10], [3, 3, 3, 3, 3, 3, 3, 3, 3, 3, 3, 4, 24, 90, 90, 266, 267, 24, 4, 268, 270, 94], [.int .i64, .int .i64, .int .i64, .int .i64, .int .i64, .int .i64, .int .i64, .int .i64, .int .i64, .int .i64, .int .i64, .bool, .sl 24, .sl 90, .sl 90, .sl 266, .sl 267, .sl 24, .bool, .int .i64, .int .i64, .int .i64, .int .i64, .int .i64, .int .i64, .int .i64, .int .i64, .int .i64, .sl 90, .sl 24, .int .i64, .int .i64, .int .i64, .bool, .sl 24, .sl 90, .sl 91, .sl 24, .sl 90, .sl 92], false⟩ := by kernel_rfl
theorem cx_at274 : PM.find cx 274 = some ⟨3, true, [.int .i64 0, .int .i64 0, .int .i64 0], none, 0, none, [0, 1, 2], [1, 1, 1], [3, 3, 3], [.int .i64, .int .i64, .int .i64], true⟩ := by kernel_rfl
theorem cx_at275 : PM.find cx 275 = some ⟨3, true, [.int .i64 0, .int .i64 0, .int .i64 0], none, 0, none, [0, 1, 2], [1, 1, 1], [3, 3, 3], [.int .i64, .int .i64, .int .i64], true⟩ := by kernel_rfl
theorem cx_at277 : PM.find cx 277 = some ⟨3, true, [.int .i64 0, .int .i64 0, .int .i64 0], none, 0, none, [0, 1, 2], [1, 1, 1], [3, 3, 3], [.int .i64, .int .i64, .int .i64], true⟩ := by kernel_rfl
theorem cx_at284 : PM.find cx 284 = some ⟨18, true, [.int .i64 0, .int .i64 0, .int .i64 0, .int .i64 0, .int .i64 0, .arr (.emp (.vecs 297 2)), .bool false, .int .i64 0, .int .i64 0, .int .i64 0, .int .i64 0, .int .i64 0, .int .i64 0, .int .i64 0, .int .i64 0, .int .i64 0, .arr (.emp (.vecs 297 2)), .arr (.emp (.ints 3 .i64))], none, 0, none, [0, 1, 2, 3, 4, 5, 6, 7, 11], [1, 1, 1, 1, 1, 1, 1, 4, 7], [3, 3, 3, 3, 3, 90, 4, 268, 270], [.int .i64, .int .i64, .int .i64, .int .i64, .int .i64, .sl 90, .bool, .int .i64, .int .i64, .int .i64, .int .i64, .int .i64, .int .i64, .int .i64, .int .i64, .int .i64, .sl 90, .sl 24], false⟩ := by kernel_rfl
theorem cx_at285 : PM.find cx 285 = some ⟨18, true, [.int .i64 0, .int .i64 0, .int .i64 0, .int .i64 0, .int .i64 0, .arr (.emp (.vecs 297 2)), .bool false, .int .i64 0, .int .i64 0, .int .i64 0, .int .i64 0, .int .i64 0, .int .i64 0, .int .i64 0, .int .i64 0, .int .i64 0, .arr (.emp (.vecs 297 2)), .arr (.emp (.ints 3 .i64))], none, 0, none, [0, 1, 2, 3, 4, 5, 6, 7, 11], [1, 1, 1, 1, 1, 1, 1, 4, 7], [3, 3, 3, 3, 3, 90, 4, 268, 270], [.int .i64, .int .i64, .int .i64, .int .i64, .int .i64, .sl 90, .bool, .int .i64, .int .i64, .int .i64, .int .i64, .int .i64, .int .i64, .int .i64, .int .i64, .int .i64, .sl 90, .sl 24], false⟩ := by kernel_rfl
theorem cx_at286 : PM.find cx 286 = some ⟨3, true, [.int .i64 0, .int .i64 0, .int .i64 0], none, 0, none, [0, 1, 2], [1, 1, 1], [3, 3, 3], [.int .i64, .int .i64, .int .i64], true⟩ := by kernel_rfl
theorem cx_at287 : PM.find cx 287 = some ⟨3, true, [.int .i64 0, .int .i64 0, .int .i64 0], none, 0, none, [0, 1, 2], [1, 1, 1], [3, 3, 3], [.int .i64, .int .i64, .int .i64], true⟩ := by kernel_rfl
theorem cx_at293 : PM.find cx 293 = some ⟨1, false, [.arr (.emp (.rows 405))], some (.rows 405), 3, none, [], [], [], [.sl 293], false⟩ := by kernel_rfl
theorem cx_at294 : PM.find cx 294 = some ⟨15, true, [.int .i64 0, .int .i64 0, .int .i64 0, .int .i64 0, .int .i64 0, .int .i64 0, .arr (.emp (.ints 3 .i64)), .arr (.emp (.vecs 299 3)), .arr (.emp (.vecs 297 2)), .arr (.emp (.rows 405)), .bool false, .int .i64 0, .int .i64 0, .int .i64 0, .int .i64 0], none, 0, none, [0, 1, 2, 3, 4, 5, 6, 7, 8, 9, 10, 11], [1, 1, 1, 1, 1, 1, 1, 1, 1, 1, 1, 4], [3, 3, 3, 3, 3, 3, 24, 91, 90, 293, 4, 268], [.int .i64, .int .i64, .int .i64, .int .i64, .int .i64, .int .i64, .sl 24, .sl 91, .sl 90, .sl 293, .bool, .int .i64, .int .i64, .int .i64, .int .i64], false⟩ := by kernel_rfl
theorem cx_at295 : PM.find cx 295 = some ⟨15, true, [.int .i64 0, .int .i64 0, .int .i64 0, .int .i64 0, .int .i64 0, .int .i64 0, .arr (.emp (.ints 3 .i64)), .arr (.emp (.vecs 299 3)), .arr (.emp (.vecs 297 2)), .arr (.emp (.rows 405)), .bool false, .int .i64 0, .int .i64 0, .int .i64 0, .int .i64 0], none, 0, none, [0, 1, 2, 3, 4, 5, 6, 7, 8, 9, 10, 11], [1, 1, 1, 1, 1, 1, 1, 1, 1, 1, 1, 4], [3, 3, 3, 3, 3, 3, 24, 91, 90, 293, 4, 268], [.int .i64, .int .i64, .int .i64, .int .i64, .int .i64, .int .i64, .sl 24, .sl 91, .sl 90, .sl 293, .bool, .int .i64, .int .i64, .int .i64, .int .i64], false⟩ := by kernel_rfl
theorem cx_at297 : PM.find cx 297 = some ⟨2, true, [.int .i64 0, .int .i64 0], none, 0, none, [0, 1], [1, 1], [3, 3], [.int .i64, .int .i64], true⟩ := by kernel_rfl
theorem cx_at299 : PM.find cx 299 = some ⟨3, true, [.int .i64 0, .int .i64 0, .int .i64 0], none, 0, none, [0, 1, 2], [1, 1, 1], [3, 3, 3], [.int .i64, .int .i64, .int .i64], true⟩ := by kernel_rfl
theorem cx_at307 : PM.find cx 307 = some ⟨1, false, [.arr (.emp (.vecs 409 4))], some (.vecs 409 4), 4, none, [], [], [], [.sl 307], false⟩ := by kernel_rfl
theorem cx_at308 : PM.find cx 308 = some ⟨1, true, [.arr (.emp (.vecs 409 4))], none, 0, none, [0], [1], [307], [.sl 307], false⟩ := by kernel_rfl
theorem cx_at309 : PM.find cx 309 = some ⟨1, true, [.arr (.emp (.vecs 409 4))], none, 0, none, [0], [1], [307], [.sl 307], false⟩ := by kernel_rfl
theorem cx_at311 : PM.find cx 311 = some ⟨4, true, [.int .i64 0, .int .i64 0, .int .i64 0, .int .i64 0], none, 0, none, [0, 1, 2, 3], [1, 1, 1, 1], [3, 3, 3, 3], [.int .i64, .int .i64, .int .i64, .int .i64], true⟩ := by kernel_rfl
theorem cx_at312 : PM.find cx 312 = some ⟨4, true, [.int .i64 0, .int .i64 0, .int .i64 0, .int .i64 0], none, 0, none, [0, 1, 2, 3], [1, 1, 1, 1], [3, 3, 3, 3], [.int .i64, .int .i64, .int .i64, .int .i64], true⟩ := by kernel_rfl
theorem cx_at316 : PM.find cx 316 = some ⟨2, true, [.arr (.emp (.vecs 409 4)), .arr (.emp (.rows 309))], none, 0, none, [0, 1], [1, 1], [307, 112], [.sl 307, .sl 112], false⟩ := by kernel_rfl
theorem cx_at317 : PM.find cx 317 = some ⟨2, true, [.arr (.emp (.vecs 409 4)), .arr (.emp (.rows 309))], none, 0, none, [0, 1], [1, 1], [307, 112], [.sl 307, .sl 112], false⟩ := by kernel_rfl
theorem cx_at319 : PM.find cx 319 = some ⟨3, true, [.int .i64 0, .int .i64 0, .int .i64 0], none, 0, none, [0, 1, 2], [1, 1, 1], [3, 3, 3], [.int .i64, .int .i64, .int .i64], true⟩ := by kernel_rfl
theorem cx_at320 : PM.find cx 320 = some ⟨3, true, [.int .i64 0, .int .i64 0, .int .i64 0], none, 0, none, [0, 1, 2], [1, 1, 1], [3, 3, 3], [.int .i64, .int .i64, .int .i64], true⟩ := by kernel_rfl
theorem cx_at322 : PM.find cx 322 = some ⟨3, true, [.int .i64 0, .int .i64 0, .int .i64 0], none, 0, none, [0, 1, 2], [1, 1, 1], [3, 3, 3], [.int .i64, .int .i64, .int .i64], true⟩ := by kernel_rfl
theorem cx_at326 : PM.find cx 326 = some ⟨1, false, [.arr (.emp (.bools 4))], some (.bools 4), 1, none, [], [], [], [.sl 326], false⟩ := by kernel_rfl
theorem cx_at327 : PM.find cx 327 = some ⟨5, true, [.int .i64 0, .arr (.emp (.ints 3 .i64)), .arr (.emp (.ints 3 .i64)), .arr (.emp (.ints 3 .i64)), .int .i64 0], none, 0, none, [0, 1, 2], [1, 1, 3], [3, 24, 135], [.int .i64, .sl 24, .sl 24, .sl 24, .int .i64], false⟩ := by kernel_rfl
theorem cx_at328 : PM.find cx 328 = some ⟨5, true, [.int .i64 0, .arr (.emp (.ints 3 .i64)), .arr (.emp (.ints 3 .i64)), .arr (.emp (.ints 3 .i64)), .int .i64 0], none, 0, none, [0, 1, 2], [1, 1, 3], [3, 24, 135], [.int .i64, .sl 24, .sl 24, .sl 24, .int .i64], false⟩ := by kernel_rfl
theorem cx_at334 : PM.find cx 334 = some ⟨1, false, [.int .i64 0], none, 0, none, [], [], [], [.int .i64], false⟩ := by kernel_rfl
theorem cx_at341 : PM.find cx 341 = some ⟨1, false, [.int .u32 0], none, 0, none, [], [], [], [.int .u32], false⟩ := by kernel_rfl
theorem cx_at343 : PM.find cx 343 = some ⟨1, false, [.int .u64 0], none, 0, none, [], [], [], [.int .u64], false⟩ := by kernel_rfl
theorem cx_at354 : PM.find cx 354 = some ⟨3, true, [.int .i64 0, .int .i64 0, .int .i64 0], none, 0, none, [0, 1, 2], [1, 1, 1], [3, 3, 3], [.int .i64, .int .i64, .int .i64], true⟩ := by kernel_rfl
theorem cx_at367 : PM.find cx 367 = some ⟨3, true, [.int .i64 0, .int .i64 0, .arr (.emp (.ints 3 .i64))], none, 0, none, [0, 1, 2], [1, 1, 1], [3, 3, 24], [.int .i64, .int .i64, .sl 24], false⟩ := by kernel_rfl
theorem cx_at368 : PM.find cx 368 = some ⟨3, true, [.int .i64 0, .int .i64 0, .arr (.emp (.ints 3 .i64))], none, 0, none, [0, 1, 2], [1, 1, 1], [3, 3, 24], [.int .i64, .int .i64, .sl 24], false⟩ := by kernel_rfl
theorem cx_at376 : PM.find cx 376 = some ⟨1, false, [.arr (.emp (.rows 378))], some (.rows 378), 5, none, [], [], [], [.sl 376], false⟩ := by kernel_rfl
theorem cx_at377 : PM.find cx 377 = some ⟨5, true, [.int .i64 0, .arr (.emp (.ints 3 .i64)), .arr (.emp (.ints 3 .i64)), .arr (.emp (.ints 3 .i64)), .int .i64 0], none, 0, none, [0, 1, 2], [1, 1, 3], [3, 24, 135], [.int .i64, .sl 24, .sl 24, .sl 24, .int .i64], false⟩ := by kernel_rfl
theorem cx_at378 : PM.find cx 378 = some ⟨5, true, [.int .i64 0, .arr (.emp (.ints 3 .i64)), .arr (.emp (.ints 3 .i64)), .arr (.emp (.ints 3 .i64)), .int .i64 0], none, 0, none, [0, 1, 2], [1, 1, 3], [3, 24, 135], [.int .i64, .sl 24, .sl 24, .sl 24, .int .i64], false⟩ := by kernel_rfl
theorem cx_at380 : PM.find cx 380 = some ⟨1, false, [.arr (.emp (.rows 382))], some (.rows 382), 5, none, [], [], [], [.sl 380], false⟩ := by kernel_rfl
theorem cx_at381 : PM.find cx 381 = some ⟨5, true, [.int .i64 0, .arr (.emp (.ints 3 .i64)), .arr (.emp (.ints 3 .i64)), .arr (.emp (.ints 3 .i64)), .int .i64 0], none, 0, none, [0, 1, 2], [1, 1, 3], [3, 24, 135], [.int .i64, .sl 24, .sl 24, .sl 24, .int .i64], false⟩ := by kernel_rfl
theorem cx_at382 : PM.find cx 382 = some ⟨5, true, [.int .i64 0, .arr (.emp (.ints 3 .i64)), .arr (.emp (.ints 3 .i64)), .arr (.emp (.ints 3 .i64)), .int .i64 0], none, 0, none, [0, 1, 2], [1, 1, 3], [3, 24, 135], [.int .i64, .sl 24, .sl 24, .sl 24, .int .i64], false⟩ := by kernel_rfl
theorem cx_at385 : PM.find cx 385 = some ⟨1, false, [.int .u64 0], none, 0, none, [], [], [], [.int .u64], false⟩ := by kernel_rfl
theorem cx_at394 : PM.find cx 394 = some ⟨5, true, [.int .i64 0, .int .i64 0, .int .i64 0, .int .i64 0, .arr (.emp (.ints 3 .i64))], none, 0, none, [0, 1, 2, 3, 4], [1, 1, 1, 1, 1], [3, 3, 3, 3, 24], [.int .i64, .int .i64, .int .i64, .int .i64, .sl 24], false⟩ := by kernel_rfl
theorem cx_at395 : PM.find cx 395 = some ⟨5, true, [.int .i64 0, .int .i64 0, .int .i64 0, .int .i64 0, .arr (.emp (.ints 3 .i64))], none, 0, none, [0, 1, 2, 3, 4], [1, 1, 1, 1, 1], [3, 3, 3, 3, 24], [.int .i64, .int .i64, .int .i64, .int .i64, .sl 24], false⟩ := by kernel_rfl
theorem cx_at396 : PM.find cx 396 = some ⟨5, true, [.int .i64 0, .int .i64 0, .int .i64 0, .int .i64 0, .arr (.emp (.ints 3 .i64))], none, 0, none, [0, 1, 2, 3, 4], [1, 1, 1, 1, 1], [3, 3, 3, 3, 24], [.int .i64, .int .i64, .int .i64, .int .i64, .sl 24], false⟩ := by kernel_rfl
theorem cx_at398 : PM.find cx 398 = some ⟨3, true, [.int .i64 0, .int .i64 0, .int .i64 0], none, 0, none, [0, 1, 2], [1, 1, 1], [3, 3, 3], [.int .i64, .int .i64, .int .i64], true⟩ := by kernel_rfl
theorem cx_at399 : PM.find cx 399 = some ⟨3, true, [.int .i64 0, .int .i64 0, .int .i64 0], none, 0, none, [0, 1, 2], [1, 1, 1], [3, 3, 3], [.int .i64, .int .i64, .int .i64], true⟩ := by kernel_rfl
theorem cx_at401 : PM.find cx 401 = some ⟨3, true, [.int .i64 0, .int .i64 0, .int .i64 0], none, 0, none, [0, 1, 2], [1, 1, 1], [3, 3, 3], [.int .i64, .int .i64, .int .i64], true⟩ := by kernel_rfl
theorem cx_at405 : PM.find cx 405 = some ⟨3, true, [.int .i64 0, .int .i64 0, .arr (.emp (.ints 3 .i64))], none, 0, none, [0, 1, 2], [1, 1, 1], [3, 3, 24], [.int .i64, .int .i64, .sl 24], false⟩ := by kernel_rfl
theorem cx_at409 : PM.find cx 409 = some ⟨4, true, [.int .i64 0, .int .i64 0, .int .i64 0, .int .i64 0], none, 0, none, [0, 1, 2, 3], [1, 1, 1, 1], [3, 3, 3, 3], [.int .i64, .int .i64, .int .i64, .int .i64], true⟩ := by kernel_rfl
theorem cx_at423 : PM.find cx 423 = some ⟨1, false, [.int .u8 0], none, 0, none, [], [], [], [.int .u8], false⟩ := by kernel_rfl
theorem cx_at424 : PM.find cx 424 = some ⟨1, false, [.int .u8 0], none, 0, none, [], [], [], [.int .u8], false⟩ := by kernel_rfl
theorem cx_at427 : PM.find cx 427 = some ⟨1, false, [.int .i32 0], none, 0, none, [], [], [], [.int .i32], false⟩ := by kernel_rfl
theorem cx_at428 : PM.find cx 428 = some ⟨1, false, [.int .i32 0], none, 0, none, [], [], [], [.int .i32], false⟩ := by kernel_rfl

abbrev laws_szIntS_T := (List Int) → (Int) → ((Int) → PM.R) → PM.R
noncomputable def laws_szIntS_w (c : laws_szIntS_T) (ds : List PM.V) (k : PM.V → PM.R) : PM.R :=
  match ds with
  | [.arr (.ints 3 .i64 a), .int .i64 left] => c a left (fun r0 => k (.int .i64 r0))
  | _ => none
noncomputable def laws_szIntS_f (A : PM.Prims) (a : List Int) (left : Int) (k : (Int) → PM.R) : PM.R :=
  bif (A.lt (A.sub .i64 left (A.ilen a)) 0) then
    k (-1)
  else
    k (A.sub .i64 left (A.ilen a))
noncomputable def laws_szIntS (A : PM.Prims) : laws_szIntS_T := laws_szIntS_f A
noncomputable def laws_szIntS_L (A : PM.Prims) (n : Nat) : PM.Lam := fun cur σ K =>
  match cur, σ, K with
  | _, _, _ => none
noncomputable def laws_szIntS_E (A : PM.Prims) : PM.Env := ⟨[], [], [], [(0, [0, 1]), (1, [1]), (2, [1, 10]), (3, [4]), (4, [4])], laws_szIntS_L A A.fuel⟩
theorem laws_szIntS_ok (A : PM.Prims) (a : List Int) (left : Int) (k : PM.V → PM.R) : PM.pfun A cx [] (laws_szIntS_E A) Go.Proofs.Try.f146 [.arr (.ints 3 .i64 a), .int .i64 left] k = laws_szIntS_f A a left (fun r0 => k (.int .i64 r0)) := by kernel_rfl

theorem laws_szIntS_fn : PM.FnIs Try.prog 146 Try.f146 := .of Try.func146 (by kernel_rfl) (by kernel_rfl)
theorem laws_szIntS_g : PM.GOk Try.prog cx 146 ⟨[], laws_szIntS_w (laws_szIntS PM.std), none⟩ := by
  refine ⟨laws_szIntS_fn.enter, fun _ ds k r h => ?_, fun hm => absurd rfl hm, fun _ e => (by cases e)⟩
  change laws_szIntS_w (laws_szIntS PM.std) ds k = some r at h
  unfold laws_szIntS_w at h
  split at h
  · exact PM.pfun_ok (E := laws_szIntS_E PM.std) (L := fun n => laws_szIntS_L PM.std n) (N := PM.std.fuel) cx_ok .nil mixed .nil laws_szIntS_fn (by kernel_rfl) ⟨rfl, fun _ _ _ => rfl, fun n cur σ K r h => by cases h⟩
      ((laws_szIntS_ok PM.std _ _ k).trans h)
  · cases h

abbrev laws_szRowS_T := (List (List Int)) → (Int) → ((Int) → PM.R) → PM.R
noncomputable def laws_szRowS_w (c : laws_szRowS_T) (ds : List PM.V) (k : PM.V → PM.R) : PM.R :=
  match ds with
  | [.arr (.vecs 297 2 a), .int .i64 left] => c a left (fun r0 => k (.int .i64 r0))
  | _ => none
noncomputable def laws_szRowS_f (A : PM.Prims) (a : List (List Int)) (left : Int) (k : (Int) → PM.R) : PM.R :=
  bif (A.lt (A.sub .i64 left (A.vlen a)) 0) then
    k (-1)
  else
    k (A.sub .i64 left (A.vlen a))
noncomputable def laws_szRowS (A : PM.Prims) : laws_szRowS_T := laws_szRowS_f A
noncomputable def laws_szRowS_L (A : PM.Prims) (n : Nat) : PM.Lam := fun cur σ K =>
  match cur, σ, K with
  | _, _, _ => none
noncomputable def laws_szRowS_E (A : PM.Prims) : PM.Env := ⟨[], [], [], [(0, [0, 1]), (1, [1]), (2, [1, 10]), (3, [4]), (4, [4])], laws_szRowS_L A A.fuel⟩
theorem laws_szRowS_ok (A : PM.Prims) (a : List (List Int)) (left : Int) (k : PM.V → PM.R) : PM.pfun A cx [] (laws_szRowS_E A) Go.Proofs.Try.f147 [.arr (.vecs 297 2 a), .int .i64 left] k = laws_szRowS_f A a left (fun r0 => k (.int .i64 r0)) := by kernel_rfl

theorem laws_szRowS_fn : PM.FnIs Try.prog 147 Try.f147 := .of Try.func147 (by kernel_rfl) (by kernel_rfl)
theorem laws_szRowS_g : PM.GOk Try.prog cx 147 ⟨[], laws_szRowS_w (laws_szRowS PM.std), none⟩ := by
  refine ⟨laws_szRowS_fn.enter, fun _ ds k r h => ?_, fun hm => absurd rfl hm, fun _ e => (by cases e)⟩
  change laws_szRowS_w (laws_szRowS PM.std) ds k = some r at h
  unfold laws_szRowS_w at h
  split at h
  · exact PM.pfun_ok (E := laws_szRowS_E PM.std) (L := fun n => laws_szRowS_L PM.std n) (N := PM.std.fuel) cx_ok .nil mixed .nil laws_szRowS_fn (by kernel_rfl) ⟨rfl, fun _ _ _ => rfl, fun n cur σ K r h => by cases h⟩
      ((laws_szRowS_ok PM.std _ _ k).trans h)
  · cases h

abbrev laws_szOpS_T := (List (List Int)) → (Int) → ((Int) → PM.R) → PM.R
noncomputable def laws_szOpS_w (c : laws_szOpS_T) (ds : List PM.V) (k : PM.V → PM.R) : PM.R :=
  match ds with
  | [.arr (.vecs 409 4 a), .int .i64 left] => c a left (fun r0 => k (.int .i64 r0))
  | _ => none
noncomputable def laws_szOpS_f (A : PM.Prims) (a : List (List Int)) (left : Int) (k : (Int) → PM.R) : PM.R :=
  bif (A.lt (A.sub .i64 left (A.vlen a)) 0) then
    k (-1)
  else
    k (A.sub .i64 left (A.vlen a))
noncomputable def laws_szOpS (A : PM.Prims) : laws_szOpS_T := laws_szOpS_f A
noncomputable def laws_szOpS_L (A : PM.Prims) (n : Nat) : PM.Lam := fun cur σ K =>
  match cur, σ, K with
  | _, _, _ => none
noncomputable def laws_szOpS_E (A : PM.Prims) : PM.Env := ⟨[], [], [], [(0, [0, 1]), (1, [1]), (2, [1, 10]), (3, [4]), (4, [4])], laws_szOpS_L A A.fuel⟩
theorem laws_szOpS_ok (A : PM.Prims) (a : List (List Int)) (left : Int) (k : PM.V → PM.R) : PM.pfun A cx [] (laws_szOpS_E A) Go.Proofs.Try.f279 [.arr (.vecs 409 4 a), .int .i64 left] k = laws_szOpS_f A a left (fun r0 => k (.int .i64 r0)) := by kernel_rfl

theorem laws_szOpS_fn : PM.FnIs Try.prog 279 Try.f279 := .of Try.func279 (by kernel_rfl) (by kernel_rfl)
theorem laws_szOpS_g : PM.GOk Try.prog cx 279 ⟨[], laws_szOpS_w (laws_szOpS PM.std), none⟩ := by
  refine ⟨laws_szOpS_fn.enter, fun _ ds k r h => ?_, fun hm => absurd rfl hm, fun _ e => (by cases e)⟩
  change laws_szOpS_w (laws_szOpS PM.std) ds k = some r at h
  unfold laws_szOpS_w at h
  split at h
  · exact PM.pfun_ok (E := laws_szOpS_E PM.std) (L := fun n => laws_szOpS_L PM.std n) (N := PM.std.fuel) cx_ok .nil mixed .nil laws_szOpS_fn (by kernel_rfl) ⟨rfl, fun _ _ _ => rfl, fun n cur σ K r h => by cases h⟩
      ((laws_szOpS_ok PM.std _ _ k).trans h)
  · cases h

abbrev laws_szKid_T := (List (List Int)) → (Int) → ((Int) → PM.R) → PM.R
noncomputable def laws_szKid_w (c : laws_szKid_T) (ds : List PM.V) (k : PM.V → PM.R) : PM.R :=
  match ds with
  | [.agg [.arr (.vecs 409 4 a_Code)], .int .i64 left] => c a_Code left (fun r0 => k (.int .i64 r0))
  | _ => none
noncomputable def laws_szKid_f (A : PM.Prims) (c_279 : laws_szOpS_T) (a_Code : List (List Int)) (left : Int) (k : (Int) → PM.R) : PM.R :=
  c_279 a_Code left (fun r1 =>
    bif (A.lt r1 0) then
      k (-1)
    else
      k r1)
noncomputable def laws_szKid (A : PM.Prims) : laws_szKid_T := laws_szKid_f A (laws_szOpS A)
noncomputable def laws_szKid_L (A : PM.Prims) (c_279 : laws_szOpS_T) (n : Nat) : PM.Lam := fun cur σ K =>
  match cur, σ, K with
  | _, _, _ => none
noncomputable def laws_szKid_E (A : PM.Prims) (c_279 : laws_szOpS_T) : PM.Env := ⟨[(279, ⟨[], laws_szOpS_w c_279, none⟩)], [], [], [(0, [1, 2]), (1, [1]), (2, [1, 10]), (3, [4]), (4, [4])], laws_szKid_L A c_279 A.fuel⟩
theorem laws_szKid_ok (A : PM.Prims) (c_279 : laws_szOpS_T) (a_Code : List (List Int)) (left : Int) (k : PM.V → PM.R) : PM.pfun A cx [] (laws_szKid_E A c_279) Go.Proofs.Try.f222 [.agg [.arr (.vecs 409 4 a_Code)], .int .i64 left] k = laws_szKid_f A c_279 a_Code left (fun r0 => k (.int .i64 r0)) := by kernel_rfl

theorem laws_szKid_fn : PM.FnIs Try.prog 222 Try.f222 := .of Try.func222 (by kernel_rfl) (by kernel_rfl)
theorem laws_szKid_g : PM.GOk Try.prog cx 222 ⟨[], laws_szKid_w (laws_szKid PM.std), none⟩ := by
  refine ⟨laws_szKid_fn.enter, fun _ ds k r h => ?_, fun hm => absurd rfl hm, fun _ e => (by cases e)⟩
  change laws_szKid_w (laws_szKid PM.std) ds k = some r at h
  unfold laws_szKid_w at h
  split at h
  · exact PM.pfun_ok (E := laws_szKid_E PM.std (laws_szOpS PM.std)) (L := fun n => laws_szKid_L PM.std (laws_szOpS PM.std) n) (N := PM.std.fuel) cx_ok (.cons laws_szOpS_g .nil) mixed .nil laws_szKid_fn (by kernel_rfl) ⟨rfl, fun _ _ _ => rfl, fun n cur σ K r h => by cases h⟩
      ((laws_szKid_ok PM.std (laws_szOpS PM.std) _ _ k).trans h)
  · cases h

abbrev laws_szKidS_T := (List (List PM.C)) → (Int) → ((Int) → PM.R) → PM.R
noncomputable def laws_szKidS_w (c : laws_szKidS_T) (ds : List PM.V) (k : PM.V → PM.R) : PM.R :=
  match ds with
  | [.arr (.rows 309 a), .int .i64 left] => c a left (fun r0 => k (.int .i64 r0))
  | _ => none
noncomputable def laws_szKidS_l0 (A : PM.Prims) (c_222 : laws_szKid_T) : Nat → (List (List C)) → (Int) → (Int) → ((Int) → PM.R) → ((Int) → PM.R) → PM.R
  | 0, _, _, _, _, _ => none
  | n + 1, a1, left2, i3, kret_0, kx0_0 =>
    bif (A.lt i3 (A.rlen a1)) then
      bif (A.inb i3 (A.rlen a1)) then
        c_222 (A.rsv 4 a1 i3 0) left2 (fun r4 =>
          bif (A.lt r4 0) then
            kret_0 (-1)
          else
            laws_szKidS_l0 A c_222 n a1 r4 (A.add .i64 i3 1) kret_0 kx0_0)
      else
        none
    else
      kx0_0 left2
noncomputable def laws_szKidS_f (A : PM.Prims) (c_222 : laws_szKid_T) (a : List (List PM.C)) (left : Int) (k : (Int) → PM.R) : PM.R :=
  bif (A.lt (A.sub .i64 left (A.rlen a)) 0) then
    k (-1)
  else
    laws_szKidS_l0 A c_222 A.fuel a (A.sub .i64 left (A.rlen a)) 0 (fun t457 =>
      k t457) (fun left68 =>
      k left68)
noncomputable def laws_szKidS (A : PM.Prims) : laws_szKidS_T := laws_szKidS_f A (laws_szKid A)
noncomputable def laws_szKidS_L (A : PM.Prims) (c_222 : laws_szKid_T) (n : Nat) : PM.Lam := fun cur σ K =>
  match cur, σ, K with
  | 0, ⟨[(0, .arr (.rows 309 a1)), (1, .int .i64 left2), (5, .int .i64 i3)], []⟩, K => laws_szKidS_l0 A c_222 n a1 left2 i3 (fun t45 => K .ret ⟨[(4, .int .i64 t45)], []⟩) (fun left6 => K (.exit 0) ⟨[(1, .int .i64 left6)], []⟩)
  | _, _, _ => none
noncomputable def laws_szKidS_E (A : PM.Prims) (c_222 : laws_szKid_T) : PM.Env := ⟨[(222, ⟨[], laws_szKid_w c_222, none⟩)], [], [(0, [0, 1, 5], [1, 4])], [(0, [0, 1]), (1, [0, 1]), (2, [0, 1, 11]), (3, [4]), (4, [0, 1, 5]), (5, [0, 1, 5, 15]), (6, [0, 1, 5]), (7, [0, 1, 5]), (8, [0, 1, 5, 25]), (9, [4]), (10, [4])], laws_szKidS_L A c_222 A.fuel⟩
theorem laws_szKidS_l0_ok (A : PM.Prims) (c_222 : laws_szKid_T) (n : Nat) (a1 : List (List C)) (left2 : Int) (i3 : Int) (K : Go.Exit → PM.S → PM.R) : laws_szKidS_L A c_222 (n + 1) 0 ⟨[(0, .arr (.rows 309 a1)), (1, .int .i64 left2), (5, .int .i64 i3)], []⟩ K = PM.roundF A cx (PM.runD A cx (laws_szKidS_E A c_222).inl (laws_szKidS_E A c_222).Γ 3) (laws_szKidS_E A c_222) (laws_szKidS_L A c_222 n) 0 Go.Proofs.Try.f162 ⟨[(0, .arr (.rows 309 a1)), (1, .int .i64 left2), (5, .int .i64 i3)], []⟩ K := by kernel_rfl
theorem laws_szKidS_ok (A : PM.Prims) (c_222 : laws_szKid_T) (a : List (List PM.C)) (left : Int) (k : PM.V → PM.R) : PM.pfun A cx [] (laws_szKidS_E A c_222) Go.Proofs.Try.f162 [.arr (.rows 309 a), .int .i64 left] k = laws_szKidS_f A c_222 a left (fun r0 => k (.int .i64 r0)) := by kernel_rfl

theorem laws_szKidS_fn : PM.FnIs Try.prog 162 Try.f162 := .of Try.func162 (by kernel_rfl) (by kernel_rfl)
theorem laws_szKidS_g : PM.GOk Try.prog cx 162 ⟨[], laws_szKidS_w (laws_szKidS PM.std), none⟩ := by
  refine ⟨laws_szKidS_fn.enter, fun _ ds k r h => ?_, fun hm => absurd rfl hm, fun _ e => (by cases e)⟩
  change laws_szKidS_w (laws_szKidS PM.std) ds k = some r at h
  unfold laws_szKidS_w at h
  split at h
  · exact PM.pfun_ok (E := laws_szKidS_E PM.std (laws_szKid PM.std)) (L := fun n => laws_szKidS_L PM.std (laws_szKid PM.std) n) (N := PM.std.fuel) cx_ok (.cons laws_szKid_g .nil) mixed .nil laws_szKidS_fn (by kernel_rfl) ⟨rfl, fun cur σ K => by
      dsimp only [laws_szKidS_L]
      split <;> rfl, fun n cur σ K r h => by
      dsimp only [laws_szKidS_L] at h
      split at h
      · exact (laws_szKidS_l0_ok PM.std (laws_szKid PM.std) n _ _ _ K).symm.trans h
      · cases h⟩
      ((laws_szKidS_ok PM.std (laws_szKid PM.std) _ _ k).trans h)
  · cases h

abbrev laws_szFamScript_T := (List Int) → (List Int) → (List (List Int)) → (List (List PM.C)) → (List Int) → (Int) → ((Int) → PM.R) → PM.R
noncomputable def laws_szFamScript_w (c : laws_szFamScript_T) (ds : List PM.V) (k : PM.V → PM.R) : PM.R :=
  match ds with
  | [.agg [.arr (.ints 3 .i64 a_Cells), .arr (.ints 3 .i64 a_Regs), .arr (.vecs 297 2 a_Writes), .arr (.rows 309 a_Kids), .arr (.ints 3 .i64 a_Acts)], .int .i64 left] => c a_Cells a_Regs a_Writes a_Kids a_Acts left (fun r0 => k (.int .i64 r0))
  | _ => none
noncomputable def laws_szFamScript_f (A : PM.Prims) (c_146 : laws_szIntS_T) (c_147 : laws_szRowS_T) (c_162 : laws_szKidS_T) (a_Cells : List Int) (a_Regs : List Int) (a_Writes : List (List Int)) (a_Kids : List (List PM.C)) (a_Acts : List Int) (left : Int) (k : (Int) → PM.R) : PM.R :=
  c_146 a_Cells left (fun r1 =>
    bif (A.lt r1 0) then
      k (-1)
    else
      c_146 a_Regs r1 (fun r2 =>
        bif (A.lt r2 0) then
          k (-1)
        else
          c_147 a_Writes r2 (fun r3 =>
            bif (A.lt r3 0) then
              k (-1)
            else
              c_162 a_Kids r3 (fun r4 =>
                bif (A.lt r4 0) then
                  k (-1)
                else
                  c_146 a_Acts r4 (fun r5 =>
                    bif (A.lt r5 0) then
                      k (-1)
                    else
                      k r5)))))
noncomputable def laws_szFamScript (A : PM.Prims) : laws_szFamScript_T := laws_szFamScript_f A (laws_szIntS A) (laws_szRowS A) (laws_szKidS A)
noncomputable def laws_szFamScript_L (A : PM.Prims) (c_146 : laws_szIntS_T) (c_147 : laws_szRowS_T) (c_162 : laws_szKidS_T) (n : Nat) : PM.Lam := fun cur σ K =>
  match cur, σ, K with
  | _, _, _ => none
noncomputable def laws_szFamScript_E (A : PM.Prims) (c_146 : laws_szIntS_T) (c_147 : laws_szRowS_T) (c_162 : laws_szKidS_T) : PM.Env := ⟨[(146, ⟨[], laws_szIntS_w c_146, none⟩), (147, ⟨[], laws_szRowS_w c_147, none⟩), (162, ⟨[], laws_szKidS_w c_162, none⟩)], [], [], [(0, [1, 2]), (1, [1, 2]), (2, [1, 2, 10]), (3, [4]), (4, [1, 2]), (5, [1, 2, 16]), (6, [4]), (7, [1, 2]), (8, [1, 2, 22]), (9, [4]), (10, [1, 2]), (11, [1, 2, 28]), (12, [4]), (13, [1]), (14, [1, 34]), (15, [4]), (16, [4])], laws_szFamScript_L A c_146 c_147 c_162 A.fuel⟩
theorem laws_szFamScript_ok (A : PM.Prims) (c_146 : laws_szIntS_T) (c_147 : laws_szRowS_T) (c_162 : laws_szKidS_T) (a_Cells : List Int) (a_Regs : List Int) (a_Writes : List (List Int)) (a_Kids : List (List PM.C)) (a_Acts : List Int) (left : Int) (k : PM.V → PM.R) : PM.pfun A cx [] (laws_szFamScript_E A c_146 c_147 c_162) Go.Proofs.Try.f72 [.agg [.arr (.ints 3 .i64 a_Cells), .arr (.ints 3 .i64 a_Regs), .arr (.vecs 297 2 a_Writes), .arr (.rows 309 a_Kids), .arr (.ints 3 .i64 a_Acts)], .int .i64 left] k = laws_szFamScript_f A c_146 c_147 c_162 a_Cells a_Regs a_Writes a_Kids a_Acts left (fun r0 => k (.int .i64 r0)) := by kernel_rfl

theorem laws_szFamScript_fn : PM.FnIs Try.prog 72 Try.f72 := .of Try.func72 (by kernel_rfl) (by kernel_rfl)
theorem laws_szFamScript_g : PM.GOk Try.prog cx 72 ⟨[], laws_szFamScript_w (laws_szFamScript PM.std), none⟩ := by
  refine ⟨laws_szFamScript_fn.enter, fun _ ds k r h => ?_, fun hm => absurd rfl hm, fun _ e => (by cases e)⟩
  change laws_szFamScript_w (laws_szFamScript PM.std) ds k = some r at h
  unfold laws_szFamScript_w at h
  split at h
  · exact PM.pfun_ok (E := laws_szFamScript_E PM.std (laws_szIntS PM.std) (laws_szRowS PM.std) (laws_szKidS PM.std)) (L := fun n => laws_szFamScript_L PM.std (laws_szIntS PM.std) (laws_szRowS PM.std) (laws_szKidS PM.std) n) (N := PM.std.fuel) cx_ok (.cons laws_szIntS_g (.cons laws_szRowS_g (.cons laws_szKidS_g .nil))) mixed .nil laws_szFamScript_fn (by kernel_rfl) ⟨rfl, fun _ _ _ => rfl, fun n cur σ K r h => by cases h⟩
      ((laws_szFamScript_ok PM.std (laws_szIntS PM.std) (laws_szRowS PM.std) (laws_szKidS PM.std) _ _ _ _ _ _ k).trans h)
  · cases h

abbrev laws_toIntS_T := (List Int) → ((List Int) → PM.R) → PM.R
noncomputable def laws_toIntS_w (c : laws_toIntS_T) (ds : List PM.V) (k : PM.V → PM.R) : PM.R :=
  match ds with
  | [.arr (.ints 3 .i64 a)] => c a (fun r0 => k (.arr (.ints 3 .i64 r0)))
  | _ => none
noncomputable def laws_toIntS_l0 (A : PM.Prims) : Nat → (List Int) → (Int) → (List Int) → ((List Int) → PM.R) → PM.R
  | 0, _, _, _, _ => none
  | n + 1, a1, i2, o03, kx0_0 =>
    bif (A.lt i2 (A.ilen a1)) then
      bif (A.inb i2 (A.ilen a1)) then
        bif (A.inb i2 (A.ilen o03)) then
          laws_toIntS_l0 A n a1 (A.add .i64 i2 1) (A.iset o03 i2 (A.iget a1 i2)) kx0_0
        else
          none
      else
        none
    else
      kx0_0 o03
noncomputable def laws_toIntS_f (A : PM.Prims) (a : List Int) (k : (List Int) → PM.R) : PM.R :=
  bif (A.mkOk (A.ilen a)) then
    bif (A.le (A.ilen a) (A.ilen a)) then
      bif (A.mkOk (A.ilen a)) then
        laws_toIntS_l0 A A.fuel a 0 (A.izero (A.ilen a)) (fun o045 =>
          k o045)
      else
        none
    else
      none
  else
    none
noncomputable def laws_toIntS (A : PM.Prims) : laws_toIntS_T := laws_toIntS_f A
noncomputable def laws_toIntS_L (A : PM.Prims) (n : Nat) : PM.Lam := fun cur σ K =>
  match cur, σ, K with
  | 0, ⟨[(0, .arr (.ints 3 .i64 a1)), (3, .sref 0), (4, .int .i64 i2)], [(0, .arr true (.ints 3 .i64 o03))]⟩, K => laws_toIntS_l0 A n a1 i2 o03 (fun o04 => K (.exit 0) ⟨[(3, .sref 0)], [(0, .arr true (.ints 3 .i64 o04))]⟩)
  | _, _, _ => none
noncomputable def laws_toIntS_E (A : PM.Prims) : PM.Env := ⟨[], [], [(0, [0, 3, 4], [2, 3])], [(0, [0]), (1, [0, 3]), (2, [0, 3, 4]), (3, [0, 3, 4, 11]), (4, [0, 3, 4]), (5, [0, 3, 4]), (6, [2])], laws_toIntS_L A A.fuel⟩
theorem laws_toIntS_l0_ok (A : PM.Prims) (n : Nat) (a1 : List Int) (i2 : Int) (o03 : List Int) (K : Go.Exit → PM.S → PM.R) : laws_toIntS_L A (n + 1) 0 ⟨[(0, .arr (.ints 3 .i64 a1)), (3, .sref 0), (4, .int .i64 i2)], [(0, .arr true (.ints 3 .i64 o03))]⟩ K = PM.roundF A cx (PM.runD A cx (laws_toIntS_E A).inl (laws_toIntS_E A).Γ 3) (laws_toIntS_E A) (laws_toIntS_L A n) 0 Go.Proofs.Try.f37 ⟨[(0, .arr (.ints 3 .i64 a1)), (3, .sref 0), (4, .int .i64 i2)], [(0, .arr true (.ints 3 .i64 o03))]⟩ K := by kernel_rfl
theorem laws_toIntS_ok (A : PM.Prims) (a : List Int) (k : PM.V → PM.R) : PM.pfun A cx [] (laws_toIntS_E A) Go.Proofs.Try.f37 [.arr (.ints 3 .i64 a)] k = laws_toIntS_f A a (fun r0 => k (.arr (.ints 3 .i64 r0))) := by kernel_rfl

theorem laws_toIntS_fn : PM.FnIs Try.prog 37 Try.f37 := .of Try.func37 (by kernel_rfl) (by kernel_rfl)
theorem laws_toIntS_g : PM.GOk Try.prog cx 37 ⟨[], laws_toIntS_w (laws_toIntS PM.std), none⟩ := by
  refine ⟨laws_toIntS_fn.enter, fun _ ds k r h => ?_, fun hm => absurd rfl hm, fun _ e => (by cases e)⟩
  change laws_toIntS_w (laws_toIntS PM.std) ds k = some r at h
  unfold laws_toIntS_w at h
  split at h
  · exact PM.pfun_ok (E := laws_toIntS_E PM.std) (L := fun n => laws_toIntS_L PM.std n) (N := PM.std.fuel) cx_ok .nil mixed .nil laws_toIntS_fn (by kernel_rfl) ⟨rfl, fun cur σ K => by
      dsimp only [laws_toIntS_L]
      split <;> rfl, fun n cur σ K r h => by
      dsimp only [laws_toIntS_L] at h
      split at h
      · exact (laws_toIntS_l0_ok PM.std n _ _ _ K).symm.trans h
      · cases h⟩
      ((laws_toIntS_ok PM.std _ k).trans h)
  · cases h

abbrev laws_toRow_T := (Int) → (Int) → ((Int) → (Int) → PM.R) → PM.R
noncomputable def laws_toRow_w (c : laws_toRow_T) (ds : List PM.V) (k : PM.V → PM.R) : PM.R :=
  match ds with
  | [.agg [.int .i64 a_Cell, .int .i64 a_Val]] => c a_Cell a_Val (fun r0_Cell r0_Val => k (.agg [.int .i64 r0_Cell, .int .i64 r0_Val]))
  | _ => none
noncomputable def laws_toRow_f (A : PM.Prims) (a_Cell : Int) (a_Val : Int) (k : (Int) → (Int) → PM.R) : PM.R :=
  k a_Cell a_Val
noncomputable def laws_toRow (A : PM.Prims) : laws_toRow_T := laws_toRow_f A
noncomputable def laws_toRow_L (A : PM.Prims) (n : Nat) : PM.Lam := fun cur σ K =>
  match cur, σ, K with
  | _, _, _ => none
noncomputable def laws_toRow_E (A : PM.Prims) : PM.Env := ⟨[], [], [], [(0, [1, 2]), (1, [1, 2, 3]), (2, [1, 2, 3]), (3, [2, 3]), (4, [2])], laws_toRow_L A A.fuel⟩
theorem laws_toRow_ok (A : PM.Prims) (a_Cell : Int) (a_Val : Int) (k : PM.V → PM.R) : PM.pfun A cx [] (laws_toRow_E A) Go.Proofs.Try.f214 [.agg [.int .i64 a_Cell, .int .i64 a_Val]] k = laws_toRow_f A a_Cell a_Val (fun r0_Cell r0_Val => k (.agg [.int .i64 r0_Cell, .int .i64 r0_Val])) := by kernel_rfl

theorem laws_toRow_fn : PM.FnIs Try.prog 214 Try.f214 := .of Try.func214 (by kernel_rfl) (by kernel_rfl)
theorem laws_toRow_g : PM.GOk Try.prog cx 214 ⟨[], laws_toRow_w (laws_toRow PM.std), none⟩ := by
  refine ⟨laws_toRow_fn.enter, fun _ ds k r h => ?_, fun hm => absurd rfl hm, fun _ e => (by cases e)⟩
  change laws_toRow_w (laws_toRow PM.std) ds k = some r at h
  unfold laws_toRow_w at h
  split at h
  · exact PM.pfun_ok (E := laws_toRow_E PM.std) (L := fun n => laws_toRow_L PM.std n) (N := PM.std.fuel) cx_ok .nil mixed .nil laws_toRow_fn (by kernel_rfl) ⟨rfl, fun _ _ _ => rfl, fun n cur σ K r h => by cases h⟩
      ((laws_toRow_ok PM.std _ _ k).trans h)
  · cases h

abbrev laws_toRowS_T := (List (List Int)) → ((List (List Int)) → PM.R) → PM.R
noncomputable def laws_toRowS_w (c : laws_toRowS_T) (ds : List PM.V) (k : PM.V → PM.R) : PM.R :=
  match ds with
  | [.arr (.vecs 297 2 a)] => c a (fun r0 => k (.arr (.vecs 161 2 r0)))
  | _ => none
noncomputable def laws_toRowS_l0 (A : PM.Prims) (c_214 : laws_toRow_T) : Nat → (List (List Int)) → (Int) → (List (List Int)) → ((List (List Int)) → PM.R) → PM.R
  | 0, _, _, _, _ => none
  | n + 1, a1, i2, o03, kx0_0 =>
    bif (A.lt i2 (A.vlen a1)) then
      bif (A.inb i2 (A.vlen a1)) then
        c_214 (A.vget a1 i2 0) (A.vget a1 i2 1) (fun r4 r5 =>
          bif (A.inb i2 (A.vlen o03)) then
            laws_toRowS_l0 A c_214 n a1 (A.add .i64 i2 1) (A.vput o03 i2 [r4, r5]) kx0_0
          else
            none)
      else
        none
    else
      kx0_0 o03
noncomputable def laws_toRowS_f (A : PM.Prims) (c_214 : laws_toRow_T) (a : List (List Int)) (k : (List (List Int)) → PM.R) : PM.R :=
  bif (A.mkOk (A.vlen a)) then
    bif (A.le (A.vlen a) (A.vlen a)) then
      bif (A.mkOk (A.vlen a)) then
        laws_toRowS_l0 A c_214 A.fuel a 0 (A.vzero 2 (A.vlen a)) (fun o067 =>
          k o067)
      else
        none
    else
      none
  else
    none
noncomputable def laws_toRowS (A : PM.Prims) : laws_toRowS_T := laws_toRowS_f A (laws_toRow A)
noncomputable def laws_toRowS_L (A : PM.Prims) (c_214 : laws_toRow_T) (n : Nat) : PM.Lam := fun cur σ K =>
  match cur, σ, K with
  | 0, ⟨[(0, .arr (.vecs 297 2 a1)), (3, .sref 0), (4, .int .i64 i2)], [(0, .arr true (.vecs 161 2 o03))]⟩, K => laws_toRowS_l0 A c_214 n a1 i2 o03 (fun o06 => K (.exit 0) ⟨[(3, .sref 0)], [(0, .arr true (.vecs 161 2 o06))]⟩)
  | _, _, _ => none
noncomputable def laws_toRowS_E (A : PM.Prims) (c_214 : laws_toRow_T) : PM.Env := ⟨[(214, ⟨[], laws_toRow_w c_214, none⟩)], [], [(0, [0, 3, 4], [2, 3])], [(0, [0]), (1, [0, 3]), (2, [0, 3, 4]), (3, [0, 3, 4, 11]), (4, [0, 3, 4]), (5, [0, 3, 4]), (6, [2])], laws_toRowS_L A c_214 A.fuel⟩
theorem laws_toRowS_l0_ok (A : PM.Prims) (c_214 : laws_toRow_T) (n : Nat) (a1 : List (List Int)) (i2 : Int) (o03 : List (List Int)) (K : Go.Exit → PM.S → PM.R) : laws_toRowS_L A c_214 (n + 1) 0 ⟨[(0, .arr (.vecs 297 2 a1)), (3, .sref 0), (4, .int .i64 i2)], [(0, .arr true (.vecs 161 2 o03))]⟩ K = PM.roundF A cx (PM.runD A cx (laws_toRowS_E A c_214).inl (laws_toRowS_E A c_214).Γ 3) (laws_toRowS_E A c_214) (laws_toRowS_L A c_214 n) 0 Go.Proofs.Try.f150 ⟨[(0, .arr (.vecs 297 2 a1)), (3, .sref 0), (4, .int .i64 i2)], [(0, .arr true (.vecs 161 2 o03))]⟩ K := by kernel_rfl
theorem laws_toRowS_ok (A : PM.Prims) (c_214 : laws_toRow_T) (a : List (List Int)) (k : PM.V → PM.R) : PM.pfun A cx [] (laws_toRowS_E A c_214) Go.Proofs.Try.f150 [.arr (.vecs 297 2 a)] k = laws_toRowS_f A c_214 a (fun r0 => k (.arr (.vecs 161 2 r0))) := by kernel_rfl

theorem laws_toRowS_fn : PM.FnIs Try.prog 150 Try.f150 := .of Try.func150 (by kernel_rfl) (by kernel_rfl)
theorem laws_toRowS_g : PM.GOk Try.prog cx 150 ⟨[], laws_toRowS_w (laws_toRowS PM.std), none⟩ := by
  refine ⟨laws_toRowS_fn.enter, fun _ ds k r h => ?_, fun hm => absurd rfl hm, fun _ e => (by cases e)⟩
  change laws_toRowS_w (laws_toRowS PM.std) ds k = some r at h
  unfold laws_toRowS_w at h
  split at h
  · exact PM.pfun_ok (E := laws_toRowS_E PM.std (laws_toRow PM.std)) (L := fun n => laws_toRowS_L PM.std (laws_toRow PM.std) n) (N := PM.std.fuel) cx_ok (.cons laws_toRow_g .nil) mixed .nil laws_toRowS_fn (by kernel_rfl) ⟨rfl, fun cur σ K => by
      dsimp only [laws_toRowS_L]
      split <;> rfl, fun n cur σ K r h => by
      dsimp only [laws_toRowS_L] at h
      split at h
      · exact (laws_toRowS_l0_ok PM.std (laws_toRow PM.std) n _ _ _ K).symm.trans h
      · cases h⟩
      ((laws_toRowS_ok PM.std (laws_toRow PM.std) _ k).trans h)
  · cases h

abbrev laws_toOp_T := (Int) → (Int) → (Int) → (Int) → ((Int) → (Int) → (Int) → (Int) → PM.R) → PM.R
noncomputable def laws_toOp_w (c : laws_toOp_T) (ds : List PM.V) (k : PM.V → PM.R) : PM.R :=
  match ds with
  | [.agg [.int .i64 a_Kind, .int .i64 a_A, .int .i64 a_B, .int .i64 a_C]] => c a_Kind a_A a_B a_C (fun r0_Kind r0_A r0_B r0_C => k (.agg [.int .i64 r0_Kind, .int .i64 r0_A, .int .i64 r0_B, .int .i64 r0_C]))
  | _ => none
noncomputable def laws_toOp_f (A : PM.Prims) (a_Kind : Int) (a_A : Int) (a_B : Int) (a_C : Int) (k : (Int) → (Int) → (Int) → (Int) → PM.R) : PM.R :=
  k a_Kind a_A a_B a_C
noncomputable def laws_toOp (A : PM.Prims) : laws_toOp_T := laws_toOp_f A
noncomputable def laws_toOp_L (A : PM.Prims) (n : Nat) : PM.Lam := fun cur σ K =>
  match cur, σ, K with
  | _, _, _ => none
noncomputable def laws_toOp_E (A : PM.Prims) : PM.Env := ⟨[], [], [], [(0, [1, 2]), (1, [1, 2, 3]), (2, [1, 2, 3]), (3, [1, 2, 3]), (4, [1, 2, 3]), (5, [2, 3]), (6, [2])], laws_toOp_L A A.fuel⟩
theorem laws_toOp_ok (A : PM.Prims) (a_Kind : Int) (a_A : Int) (a_B : Int) (a_C : Int) (k : PM.V → PM.R) : PM.pfun A cx [] (laws_toOp_E A) Go.Proofs.Try.f316 [.agg [.int .i64 a_Kind, .int .i64 a_A, .int .i64 a_B, .int .i64 a_C]] k = laws_toOp_f A a_Kind a_A a_B a_C (fun r0_Kind r0_A r0_B r0_C => k (.agg [.int .i64 r0_Kind, .int .i64 r0_A, .int .i64 r0_B, .int .i64 r0_C])) := by kernel_rfl

theorem laws_toOp_fn : PM.FnIs Try.prog 316 Try.f316 := .of Try.func316 (by kernel_rfl) (by kernel_rfl)
theorem laws_toOp_g : PM.GOk Try.prog cx 316 ⟨[], laws_toOp_w (laws_toOp PM.std), none⟩ := by
  refine ⟨laws_toOp_fn.enter, fun _ ds k r h => ?_, fun hm => absurd rfl hm, fun _ e => (by cases e)⟩
  change laws_toOp_w (laws_toOp PM.std) ds k = some r at h
  unfold laws_toOp_w at h
  split at h
  · exact PM.pfun_ok (E := laws_toOp_E PM.std) (L := fun n => laws_toOp_L PM.std n) (N := PM.std.fuel) cx_ok .nil mixed .nil laws_toOp_fn (by kernel_rfl) ⟨rfl, fun _ _ _ => rfl, fun n cur σ K r h => by cases h⟩
      ((laws_toOp_ok PM.std _ _ _ _ k).trans h)
  · cases h

abbrev laws_toOpS_T := (List (List Int)) → ((List (List Int)) → PM.R) → PM.R
noncomputable def laws_toOpS_w (c : laws_toOpS_T) (ds : List PM.V) (k : PM.V → PM.R) : PM.R :=
  match ds with
  | [.arr (.vecs 409 4 a)] => c a (fun r0 => k (.arr (.vecs 312 4 r0)))
  | _ => none
noncomputable def laws_toOpS_l0 (A : PM.Prims) (c_316 : laws_toOp_T) : Nat → (List (List Int)) → (Int) → (List (List Int)) → ((List (List Int)) → PM.R) → PM.R
  | 0, _, _, _, _ => none
  | n + 1, a1, i2, o03, kx0_0 =>
    bif (A.lt i2 (A.vlen a1)) then
      bif (A.inb i2 (A.vlen a1)) then
        c_316 (A.vget a1 i2 0) (A.vget a1 i2 1) (A.vget a1 i2 2) (A.vget a1 i2 3) (fun r4 r5 r6 r7 =>
          bif (A.inb i2 (A.vlen o03)) then
            laws_toOpS_l0 A c_316 n a1 (A.add .i64 i2 1) (A.vput o03 i2 [r4, r5, r6, r7]) kx0_0
          else
            none)
      else
        none
    else
      kx0_0 o03
noncomputable def laws_toOpS_f (A : PM.Prims) (c_316 : laws_toOp_T) (a : List (List Int)) (k : (List (List Int)) → PM.R) : PM.R :=
  bif (A.mkOk (A.vlen a)) then
    bif (A.le (A.vlen a) (A.vlen a)) then
      bif (A.mkOk (A.vlen a)) then
        laws_toOpS_l0 A c_316 A.fuel a 0 (A.vzero 4 (A.vlen a)) (fun o089 =>
          k o089)
      else
        none
    else
      none
  else
    none
noncomputable def laws_toOpS (A : PM.Prims) : laws_toOpS_T := laws_toOpS_f A (laws_toOp A)
noncomputable def laws_toOpS_L (A : PM.Prims) (c_316 : laws_toOp_T) (n : Nat) : PM.Lam := fun cur σ K =>
  match cur, σ, K with
  | 0, ⟨[(0, .arr (.vecs 409 4 a1)), (3, .sref 0), (4, .int .i64 i2)], [(0, .arr true (.vecs 312 4 o03))]⟩, K => laws_toOpS_l0 A c_316 n a1 i2 o03 (fun o08 => K (.exit 0) ⟨[(3, .sref 0)], [(0, .arr true (.vecs 312 4 o08))]⟩)
  | _, _, _ => none
noncomputable def laws_toOpS_E (A : PM.Prims) (c_316 : laws_toOp_T) : PM.Env := ⟨[(316, ⟨[], laws_toOp_w c_316, none⟩)], [], [(0, [0, 3, 4], [2, 3])], [(0, [0]), (1, [0, 3]), (2, [0, 3, 4]), (3, [0, 3, 4, 11]), (4, [0, 3, 4]), (5, [0, 3, 4]), (6, [2])], laws_toOpS_L A c_316 A.fuel⟩
theorem laws_toOpS_l0_ok (A : PM.Prims) (c_316 : laws_toOp_T) (n : Nat) (a1 : List (List Int)) (i2 : Int) (o03 : List (List Int)) (K : Go.Exit → PM.S → PM.R) : laws_toOpS_L A c_316 (n + 1) 0 ⟨[(0, .arr (.vecs 409 4 a1)), (3, .sref 0), (4, .int .i64 i2)], [(0, .arr true (.vecs 312 4 o03))]⟩ K = PM.roundF A cx (PM.runD A cx (laws_toOpS_E A c_316).inl (laws_toOpS_E A c_316).Γ 3) (laws_toOpS_E A c_316) (laws_toOpS_L A c_316 n) 0 Go.Proofs.Try.f282 ⟨[(0, .arr (.vecs 409 4 a1)), (3, .sref 0), (4, .int .i64 i2)], [(0, .arr true (.vecs 312 4 o03))]⟩ K := by kernel_rfl
theorem laws_toOpS_ok (A : PM.Prims) (c_316 : laws_toOp_T) (a : List (List Int)) (k : PM.V → PM.R) : PM.pfun A cx [] (laws_toOpS_E A c_316) Go.Proofs.Try.f282 [.arr (.vecs 409 4 a)] k = laws_toOpS_f A c_316 a (fun r0 => k (.arr (.vecs 312 4 r0))) := by kernel_rfl

theorem laws_toOpS_fn : PM.FnIs Try.prog 282 Try.f282 := .of Try.func282 (by kernel_rfl) (by kernel_rfl)
theorem laws_toOpS_g : PM.GOk Try.prog cx 282 ⟨[], laws_toOpS_w (laws_toOpS PM.std), none⟩ := by
  refine ⟨laws_toOpS_fn.enter, fun _ ds k r h => ?_, fun hm => absurd rfl hm, fun _ e => (by cases e)⟩
  change laws_toOpS_w (laws_toOpS PM.std) ds k = some r at h
  unfold laws_toOpS_w at h
  split at h
  · exact PM.pfun_ok (E := laws_toOpS_E PM.std (laws_toOp PM.std)) (L := fun n => laws_toOpS_L PM.std (laws_toOp PM.std) n) (N := PM.std.fuel) cx_ok (.cons laws_toOp_g .nil) mixed .nil laws_toOpS_fn (by kernel_rfl) ⟨rfl, fun cur σ K => by
      dsimp only [laws_toOpS_L]
      split <;> rfl, fun n cur σ K r h => by
      dsimp only [laws_toOpS_L] at h
      split at h
      · exact (laws_toOpS_l0_ok PM.std (laws_toOp PM.std) n _ _ _ K).symm.trans h
      · cases h⟩
      ((laws_toOpS_ok PM.std (laws_toOp PM.std) _ k).trans h)
  · cases h

abbrev laws_toKid_T := (List (List Int)) → ((List (List Int)) → PM.R) → PM.R
noncomputable def laws_toKid_w (c : laws_toKid_T) (ds : List PM.V) (k : PM.V → PM.R) : PM.R :=
  match ds with
  | [.agg [.arr (.vecs 409 4 a_Code)]] => c a_Code (fun r0_Code => k (.agg [.arr (.vecs 312 4 r0_Code)]))
  | _ => none
noncomputable def laws_toKid_f (A : PM.Prims) (c_282 : laws_toOpS_T) (a_Code : List (List Int)) (k : (List (List Int)) → PM.R) : PM.R :=
  c_282 a_Code (fun r1 =>
    k r1)
noncomputable def laws_toKid (A : PM.Prims) : laws_toKid_T := laws_toKid_f A (laws_toOpS A)
noncomputable def laws_toKid_L (A : PM.Prims) (c_282 : laws_toOpS_T) (n : Nat) : PM.Lam := fun cur σ K =>
  match cur, σ, K with
  | _, _, _ => none
noncomputable def laws_toKid_E (A : PM.Prims) (c_282 : laws_toOpS_T) : PM.Env := ⟨[(282, ⟨[], laws_toOpS_w c_282, none⟩)], [], [], [(0, [1, 2]), (1, [1, 2, 3]), (2, [2, 3]), (3, [2])], laws_toKid_L A c_282 A.fuel⟩
theorem laws_toKid_ok (A : PM.Prims) (c_282 : laws_toOpS_T) (a_Code : List (List Int)) (k : PM.V → PM.R) : PM.pfun A cx [] (laws_toKid_E A c_282) Go.Proofs.Try.f226 [.agg [.arr (.vecs 409 4 a_Code)]] k = laws_toKid_f A c_282 a_Code (fun r0_Code => k (.agg [.arr (.vecs 312 4 r0_Code)])) := by kernel_rfl

theorem laws_toKid_fn : PM.FnIs Try.prog 226 Try.f226 := .of Try.func226 (by kernel_rfl) (by kernel_rfl)
theorem laws_toKid_g : PM.GOk Try.prog cx 226 ⟨[], laws_toKid_w (laws_toKid PM.std), none⟩ := by
  refine ⟨laws_toKid_fn.enter, fun _ ds k r h => ?_, fun hm => absurd rfl hm, fun _ e => (by cases e)⟩
  change laws_toKid_w (laws_toKid PM.std) ds k = some r at h
  unfold laws_toKid_w at h
  split at h
  · exact PM.pfun_ok (E := laws_toKid_E PM.std (laws_toOpS PM.std)) (L := fun n => laws_toKid_L PM.std (laws_toOpS PM.std) n) (N := PM.std.fuel) cx_ok (.cons laws_toOpS_g .nil) mixed .nil laws_toKid_fn (by kernel_rfl) ⟨rfl, fun _ _ _ => rfl, fun n cur σ K r h => by cases h⟩
      ((laws_toKid_ok PM.std (laws_toOpS PM.std) _ k).trans h)
  · cases h

abbrev laws_toKidS_T := (List (List PM.C)) → ((List (List PM.C)) → PM.R) → PM.R
noncomputable def laws_toKidS_w (c : laws_toKidS_T) (ds : List PM.V) (k : PM.V → PM.R) : PM.R :=
  match ds with
  | [.arr (.rows 309 a)] => c a (fun r0 => k (.arr (.rows 233 r0)))
  | _ => none
noncomputable def laws_toKidS_l0 (A : PM.Prims) (c_226 : laws_toKid_T) : Nat → (List (List C)) → (Int) → (List (List C)) → ((List (List C)) → PM.R) → PM.R
  | 0, _, _, _, _ => none
  | n + 1, a1, i2, o03, kx0_0 =>
    bif (A.lt i2 (A.rlen a1)) then
      bif (A.inb i2 (A.rlen a1)) then
        c_226 (A.rsv 4 a1 i2 0) (fun r4 =>
          bif (A.inb i2 (A.rlen o03)) then
            laws_toKidS_l0 A c_226 n a1 (A.add .i64 i2 1) (A.rput o03 i2 [(.s (A.ofv r4))]) kx0_0
          else
            none)
      else
        none
    else
      kx0_0 o03
noncomputable def laws_toKidS_f (A : PM.Prims) (c_226 : laws_toKid_T) (a : List (List PM.C)) (k : (List (List PM.C)) → PM.R) : PM.R :=
  bif (A.mkOk (A.rlen a)) then
    bif (A.le (A.rlen a) (A.rlen a)) then
      bif (A.mkOk (A.rlen a)) then
        laws_toKidS_l0 A c_226 A.fuel a 0 (A.rzero [(.s (A.ofv []))] (A.rlen a)) (fun o056 =>
          k o056)
      else
        none
    else
      none
  else
    none
noncomputable def laws_toKidS (A : PM.Prims) : laws_toKidS_T := laws_toKidS_f A (laws_toKid A)
noncomputable def laws_toKidS_L (A : PM.Prims) (c_226 : laws_toKid_T) (n : Nat) : PM.Lam := fun cur σ K =>
  match cur, σ, K with
  | 0, ⟨[(0, .arr (.rows 309 a1)), (3, .sref 0), (4, .int .i64 i2)], [(0, .arr true (.rows 233 o03))]⟩, K => laws_toKidS_l0 A c_226 n a1 i2 o03 (fun o05 => K (.exit 0) ⟨[(3, .sref 0)], [(0, .arr true (.rows 233 o05))]⟩)
  | _, _, _ => none
noncomputable def laws_toKidS_E (A : PM.Prims) (c_226 : laws_toKid_T) : PM.Env := ⟨[(226, ⟨[], laws_toKid_w c_226, none⟩)], [], [(0, [0, 3, 4], [2, 3])], [(0, [0]), (1, [0, 3]), (2, [0, 3, 4]), (3, [0, 3, 4, 11]), (4, [0, 3, 4]), (5, [0, 3, 4]), (6, [2])], laws_toKidS_L A c_226 A.fuel⟩
theorem laws_toKidS_l0_ok (A : PM.Prims) (c_226 : laws_toKid_T) (n : Nat) (a1 : List (List C)) (i2 : Int) (o03 : List (List C)) (K : Go.Exit → PM.S → PM.R) : laws_toKidS_L A c_226 (n + 1) 0 ⟨[(0, .arr (.rows 309 a1)), (3, .sref 0), (4, .int .i64 i2)], [(0, .arr true (.rows 233 o03))]⟩ K = PM.roundF A cx (PM.runD A cx (laws_toKidS_E A c_226).inl (laws_toKidS_E A c_226).Γ 3) (laws_toKidS_E A c_226) (laws_toKidS_L A c_226 n) 0 Go.Proofs.Try.f165 ⟨[(0, .arr (.rows 309 a1)), (3, .sref 0), (4, .int .i64 i2)], [(0, .arr true (.rows 233 o03))]⟩ K := by kernel_rfl
theorem laws_toKidS_ok (A : PM.Prims) (c_226 : laws_toKid_T) (a : List (List PM.C)) (k : PM.V → PM.R) : PM.pfun A cx [] (laws_toKidS_E A c_226) Go.Proofs.Try.f165 [.arr (.rows 309 a)] k = laws_toKidS_f A c_226 a (fun r0 => k (.arr (.rows 233 r0))) := by kernel_rfl

theorem laws_toKidS_fn : PM.FnIs Try.prog 165 Try.f165 := .of Try.func165 (by kernel_rfl) (by kernel_rfl)
theorem laws_toKidS_g : PM.GOk Try.prog cx 165 ⟨[], laws_toKidS_w (laws_toKidS PM.std), none⟩ := by
  refine ⟨laws_toKidS_fn.enter, fun _ ds k r h => ?_, fun hm => absurd rfl hm, fun _ e => (by cases e)⟩
  change laws_toKidS_w (laws_toKidS PM.std) ds k = some r at h
  unfold laws_toKidS_w at h
  split at h
  · exact PM.pfun_ok (E := laws_toKidS_E PM.std (laws_toKid PM.std)) (L := fun n => laws_toKidS_L PM.std (laws_toKid PM.std) n) (N := PM.std.fuel) cx_ok (.cons laws_toKid_g .nil) mixed .nil laws_toKidS_fn (by kernel_rfl) ⟨rfl, fun cur σ K => by
      dsimp only [laws_toKidS_L]
      split <;> rfl, fun n cur σ K r h => by
      dsimp only [laws_toKidS_L] at h
      split at h
      · exact (laws_toKidS_l0_ok PM.std (laws_toKid PM.std) n _ _ _ K).symm.trans h
      · cases h⟩
      ((laws_toKidS_ok PM.std (laws_toKid PM.std) _ k).trans h)
  · cases h

abbrev laws_toFamScript_T := (List Int) → (List Int) → (List (List Int)) → (List (List PM.C)) → (List Int) → ((List Int) → (List Int) → (List (List Int)) → (List (List PM.C)) → (List Int) → PM.R) → PM.R
noncomputable def laws_toFamScript_w (c : laws_toFamScript_T) (ds : List PM.V) (k : PM.V → PM.R) : PM.R :=
  match ds with
  | [.agg [.arr (.ints 3 .i64 a_Cells), .arr (.ints 3 .i64 a_Regs), .arr (.vecs 297 2 a_Writes), .arr (.rows 309 a_Kids), .arr (.ints 3 .i64 a_Acts)]] => c a_Cells a_Regs a_Writes a_Kids a_Acts (fun r0_Cells r0_Regs r0_Writes r0_Kids r0_Acts => k (.agg [.arr (.ints 3 .i64 r0_Cells), .arr (.ints 3 .i64 r0_Regs), .arr (.vecs 161 2 r0_Writes), .arr (.rows 233 r0_Kids), .arr (.ints 3 .i64 r0_Acts)]))
  | _ => none
noncomputable def laws_toFamScript_f (A : PM.Prims) (c_37 : laws_toIntS_T) (c_150 : laws_toRowS_T) (c_165 : laws_toKidS_T) (a_Cells : List Int) (a_Regs : List Int) (a_Writes : List (List Int)) (a_Kids : List (List PM.C)) (a_Acts : List Int) (k : (List Int) → (List Int) → (List (List Int)) → (List (List PM.C)) → (List Int) → PM.R) : PM.R :=
  c_37 a_Cells (fun r1 =>
    c_37 a_Regs (fun r2 =>
      c_150 a_Writes (fun r3 =>
        c_165 a_Kids (fun r4 =>
          c_37 a_Acts (fun r5 =>
            k r1 r2 r3 r4 r5)))))
noncomputable def laws_toFamScript (A : PM.Prims) : laws_toFamScript_T := laws_toFamScript_f A (laws_toIntS A) (laws_toRowS A) (laws_toKidS A)
noncomputable def laws_toFamScript_L (A : PM.Prims) (c_37 : laws_toIntS_T) (c_150 : laws_toRowS_T) (c_165 : laws_toKidS_T) (n : Nat) : PM.Lam := fun cur σ K =>
  match cur, σ, K with
  | _, _, _ => none
noncomputable def laws_toFamScript_E (A : PM.Prims) (c_37 : laws_toIntS_T) (c_150 : laws_toRowS_T) (c_165 : laws_toKidS_T) : PM.Env := ⟨[(37, ⟨[], laws_toIntS_w c_37, none⟩), (150, ⟨[], laws_toRowS_w c_150, none⟩), (165, ⟨[], laws_toKidS_w c_165, none⟩)], [], [], [(0, [1, 2]), (1, [1, 2, 3]), (2, [1, 2, 3]), (3, [1, 2, 3]), (4, [1, 2, 3]), (5, [1, 2, 3]), (6, [2, 3]), (7, [2])], laws_toFamScript_L A c_37 c_150 c_165 A.fuel⟩
theorem laws_toFamScript_ok (A : PM.Prims) (c_37 : laws_toIntS_T) (c_150 : laws_toRowS_T) (c_165 : laws_toKidS_T) (a_Cells : List Int) (a_Regs : List Int) (a_Writes : List (List Int)) (a_Kids : List (List PM.C)) (a_Acts : List Int) (k : PM.V → PM.R) : PM.pfun A cx [] (laws_toFamScript_E A c_37 c_150 c_165) Go.Proofs.Try.f74 [.agg [.arr (.ints 3 .i64 a_Cells), .arr (.ints 3 .i64 a_Regs), .arr (.vecs 297 2 a_Writes), .arr (.rows 309 a_Kids), .arr (.ints 3 .i64 a_Acts)]] k = laws_toFamScript_f A c_37 c_150 c_165 a_Cells a_Regs a_Writes a_Kids a_Acts (fun r0_Cells r0_Regs r0_Writes r0_Kids r0_Acts => k (.agg [.arr (.ints 3 .i64 r0_Cells), .arr (.ints 3 .i64 r0_Regs), .arr (.vecs 161 2 r0_Writes), .arr (.rows 233 r0_Kids), .arr (.ints 3 .i64 r0_Acts)])) := by kernel_rfl

theorem laws_toFamScript_fn : PM.FnIs Try.prog 74 Try.f74 := .of Try.func74 (by kernel_rfl) (by kernel_rfl)
theorem laws_toFamScript_g : PM.GOk Try.prog cx 74 ⟨[], laws_toFamScript_w (laws_toFamScript PM.std), none⟩ := by
  refine ⟨laws_toFamScript_fn.enter, fun _ ds k r h => ?_, fun hm => absurd rfl hm, fun _ e => (by cases e)⟩
  change laws_toFamScript_w (laws_toFamScript PM.std) ds k = some r at h
  unfold laws_toFamScript_w at h
  split at h
  · exact PM.pfun_ok (E := laws_toFamScript_E PM.std (laws_toIntS PM.std) (laws_toRowS PM.std) (laws_toKidS PM.std)) (L := fun n => laws_toFamScript_L PM.std (laws_toIntS PM.std) (laws_toRowS PM.std) (laws_toKidS PM.std) n) (N := PM.std.fuel) cx_ok (.cons laws_toIntS_g (.cons laws_toRowS_g (.cons laws_toKidS_g .nil))) mixed .nil laws_toFamScript_fn (by kernel_rfl) ⟨rfl, fun _ _ _ => rfl, fun n cur σ K r h => by cases h⟩
      ((laws_toFamScript_ok PM.std (laws_toIntS PM.std) (laws_toRowS PM.std) (laws_toKidS PM.std) _ _ _ _ _ k).trans h)
  · cases h

abbrev spec_l1In_T := (Int) → (Int) → (Int) → ((Bool) → PM.R) → PM.R
noncomputable def spec_l1In_w (c : spec_l1In_T) (ds : List PM.V) (k : PM.V → PM.R) : PM.R :=
  match ds with
  | [.int .i64 x, .int .i64 low, .int .i64 high] => c x low high (fun r0 => k (.bool r0))
  | _ => none
noncomputable def spec_l1In_f (A : PM.Prims) (x : Int) (low : Int) (high : Int) (k : (Bool) → PM.R) : PM.R :=
  bif (A.le low x) then
    k (A.le x high)
  else
    k false
noncomputable def spec_l1In (A : PM.Prims) : spec_l1In_T := spec_l1In_f A
noncomputable def spec_l1In_L (A : PM.Prims) (n : Nat) : PM.Lam := fun cur σ K =>
  match cur, σ, K with
  | _, _, _ => none
noncomputable def spec_l1In_E (A : PM.Prims) : PM.Env := ⟨[], [], [], [(0, [0, 1, 2]), (1, [6])], spec_l1In_L A A.fuel⟩
theorem spec_l1In_ok (A : PM.Prims) (x : Int) (low : Int) (high : Int) (k : PM.V → PM.R) : PM.pfun A cx [] (spec_l1In_E A) Go.Proofs.Try.f103 [.int .i64 x, .int .i64 low, .int .i64 high] k = spec_l1In_f A x low high (fun r0 => k (.bool r0)) := by kernel_rfl

theorem spec_l1In_fn : PM.FnIs Try.prog 103 Try.f103 := .of Try.func103 (by kernel_rfl) (by kernel_rfl)
theorem spec_l1In_g : PM.GOk Try.prog cx 103 ⟨[], spec_l1In_w (spec_l1In PM.std), none⟩ := by
  refine ⟨spec_l1In_fn.enter, fun _ ds k r h => ?_, fun hm => absurd rfl hm, fun _ e => (by cases e)⟩
  change spec_l1In_w (spec_l1In PM.std) ds k = some r at h
  unfold spec_l1In_w at h
  split at h
  · exact PM.pfun_ok (E := spec_l1In_E PM.std) (L := fun n => spec_l1In_L PM.std n) (N := PM.std.fuel) cx_ok .nil mixed .nil spec_l1In_fn (by kernel_rfl) ⟨rfl, fun _ _ _ => rfl, fun n cur σ K r h => by cases h⟩
      ((spec_l1In_ok PM.std _ _ _ k).trans h)
  · cases h

abbrev spec_l3Val_T := (Int) → ((Bool) → PM.R) → PM.R
noncomputable def spec_l3Val_w (c : spec_l3Val_T) (ds : List PM.V) (k : PM.V → PM.R) : PM.R :=
  match ds with
  | [.int .i64 v] => c v (fun r0 => k (.bool r0))
  | _ => none
noncomputable def spec_l3Val_f (A : PM.Prims) (c_103 : spec_l1In_T) (v : Int) (k : (Bool) → PM.R) : PM.R :=
  c_103 v 0 65535 (fun r1 =>
    k r1)
noncomputable def spec_l3Val (A : PM.Prims) : spec_l3Val_T := spec_l3Val_f A (spec_l1In A)
noncomputable def spec_l3Val_L (A : PM.Prims) (c_103 : spec_l1In_T) (n : Nat) : PM.Lam := fun cur σ K =>
  match cur, σ, K with
  | _, _, _ => none
noncomputable def spec_l3Val_E (A : PM.Prims) (c_103 : spec_l1In_T) : PM.Env := ⟨[(103, ⟨[], spec_l1In_w c_103, none⟩)], [], [], [(0, [0]), (1, [2])], spec_l3Val_L A c_103 A.fuel⟩
theorem spec_l3Val_ok (A : PM.Prims) (c_103 : spec_l1In_T) (v : Int) (k : PM.V → PM.R) : PM.pfun A cx [] (spec_l3Val_E A c_103) Go.Proofs.Try.f197 [.int .i64 v] k = spec_l3Val_f A c_103 v (fun r0 => k (.bool r0)) := by kernel_rfl

theorem spec_l3Val_fn : PM.FnIs Try.prog 197 Try.f197 := .of Try.func197 (by kernel_rfl) (by kernel_rfl)
theorem spec_l3Val_g : PM.GOk Try.prog cx 197 ⟨[], spec_l3Val_w (spec_l3Val PM.std), none⟩ := by
  refine ⟨spec_l3Val_fn.enter, fun _ ds k r h => ?_, fun hm => absurd rfl hm, fun _ e => (by cases e)⟩
  change spec_l3Val_w (spec_l3Val PM.std) ds k = some r at h
  unfold spec_l3Val_w at h
  split at h
  · exact PM.pfun_ok (E := spec_l3Val_E PM.std (spec_l1In PM.std)) (L := fun n => spec_l3Val_L PM.std (spec_l1In PM.std) n) (N := PM.std.fuel) cx_ok (.cons spec_l1In_g .nil) mixed .nil spec_l3Val_fn (by kernel_rfl) ⟨rfl, fun _ _ _ => rfl, fun n cur σ K r h => by cases h⟩
      ((spec_l3Val_ok PM.std (spec_l1In PM.std) _ k).trans h)
  · cases h

abbrev spec_l3Vals_T := (List Int) → ((Bool) → PM.R) → PM.R
noncomputable def spec_l3Vals_w (c : spec_l3Vals_T) (ds : List PM.V) (k : PM.V → PM.R) : PM.R :=
  match ds with
  | [.arr (.ints 3 .i64 l)] => c l (fun r0 => k (.bool r0))
  | _ => none
noncomputable def spec_l3Vals_l0 (A : PM.Prims) (c_197 : spec_l3Val_T) : Nat → (List Int) → (Int) → ((Bool) → PM.R) → (Unit → PM.R) → PM.R
  | 0, _, _, _, _ => none
  | n + 1, l1, i2, kret_0, kx0_0 =>
    bif (A.lt i2 (A.ilen l1)) then
      bif (A.inb i2 (A.ilen l1)) then
        c_197 (A.iget l1 i2) (fun r3 =>
          bif (A.not r3) then
            kret_0 false
          else
            spec_l3Vals_l0 A c_197 n l1 (A.add .i64 i2 1) kret_0 kx0_0)
      else
        none
    else
      kx0_0 ()
noncomputable def spec_l3Vals_f (A : PM.Prims) (c_197 : spec_l3Val_T) (l : List Int) (k : (Bool) → PM.R) : PM.R :=
  bif (A.not (A.eq (A.ilen l) 8)) then
    k false
  else
    spec_l3Vals_l0 A c_197 A.fuel l 0 (fun t245 =>
      k t245) (fun _ =>
      k true)
noncomputable def spec_l3Vals (A : PM.Prims) : spec_l3Vals_T := spec_l3Vals_f A (spec_l3Val A)
noncomputable def spec_l3Vals_L (A : PM.Prims) (c_197 : spec_l3Val_T) (n : Nat) : PM.Lam := fun cur σ K =>
  match cur, σ, K with
  | 0, ⟨[(0, .arr (.ints 3 .i64 l1)), (3, .int .i64 i2)], []⟩, K => spec_l3Vals_l0 A c_197 n l1 i2 (fun t24 => K .ret ⟨[(2, .bool t24)], []⟩) (fun _ => K (.exit 0) ⟨[], []⟩)
  | _, _, _ => none
noncomputable def spec_l3Vals_E (A : PM.Prims) (c_197 : spec_l3Val_T) : PM.Env := ⟨[(197, ⟨[], spec_l3Val_w c_197, none⟩)], [], [(0, [0, 3], [2])], [(0, [0]), (1, [0, 6]), (2, [2]), (3, [0, 3]), (4, [0, 3, 10]), (5, [0, 3]), (6, [0, 3, 18]), (7, [2]), (8, [2])], spec_l3Vals_L A c_197 A.fuel⟩
theorem spec_l3Vals_l0_ok (A : PM.Prims) (c_197 : spec_l3Val_T) (n : Nat) (l1 : List Int) (i2 : Int) (K : Go.Exit → PM.S → PM.R) : spec_l3Vals_L A c_197 (n + 1) 0 ⟨[(0, .arr (.ints 3 .i64 l1)), (3, .int .i64 i2)], []⟩ K = PM.roundF A cx (PM.runD A cx (spec_l3Vals_E A c_197).inl (spec_l3Vals_E A c_197).Γ 3) (spec_l3Vals_E A c_197) (spec_l3Vals_L A c_197 n) 0 Go.Proofs.Try.f107 ⟨[(0, .arr (.ints 3 .i64 l1)), (3, .int .i64 i2)], []⟩ K := by kernel_rfl
theorem spec_l3Vals_ok (A : PM.Prims) (c_197 : spec_l3Val_T) (l : List Int) (k : PM.V → PM.R) : PM.pfun A cx [] (spec_l3Vals_E A c_197) Go.Proofs.Try.f107 [.arr (.ints 3 .i64 l)] k = spec_l3Vals_f A c_197 l (fun r0 => k (.bool r0)) := by kernel_rfl

theorem spec_l3Vals_fn : PM.FnIs Try.prog 107 Try.f107 := .of Try.func107 (by kernel_rfl) (by kernel_rfl)
theorem spec_l3Vals_g : PM.GOk Try.prog cx 107 ⟨[], spec_l3Vals_w (spec_l3Vals PM.std), none⟩ := by
  refine ⟨spec_l3Vals_fn.enter, fun _ ds k r h => ?_, fun hm => absurd rfl hm, fun _ e => (by cases e)⟩
  change spec_l3Vals_w (spec_l3Vals PM.std) ds k = some r at h
  unfold spec_l3Vals_w at h
  split at h
  · exact PM.pfun_ok (E := spec_l3Vals_E PM.std (spec_l3Val PM.std)) (L := fun n => spec_l3Vals_L PM.std (spec_l3Val PM.std) n) (N := PM.std.fuel) cx_ok (.cons spec_l3Val_g .nil) mixed .nil spec_l3Vals_fn (by kernel_rfl) ⟨rfl, fun cur σ K => by
      dsimp only [spec_l3Vals_L]
      split <;> rfl, fun n cur σ K r h => by
      dsimp only [spec_l3Vals_L] at h
      split at h
      · exact (spec_l3Vals_l0_ok PM.std (spec_l3Val PM.std) n _ _ K).symm.trans h
      · cases h⟩
      ((spec_l3Vals_ok PM.std (spec_l3Val PM.std) _ k).trans h)
  · cases h

abbrev spec_l4Regs_T := (List Int) → ((Bool) → PM.R) → PM.R
noncomputable def spec_l4Regs_w (c : spec_l4Regs_T) (ds : List PM.V) (k : PM.V → PM.R) : PM.R :=
  match ds with
  | [.arr (.ints 3 .i64 l)] => c l (fun r0 => k (.bool r0))
  | _ => none
noncomputable def spec_l4Regs_l0 (A : PM.Prims) (c_197 : spec_l3Val_T) : Nat → (List Int) → (Int) → ((Bool) → PM.R) → (Unit → PM.R) → PM.R
  | 0, _, _, _, _ => none
  | n + 1, l1, i2, kret_0, kx0_0 =>
    bif (A.lt i2 (A.ilen l1)) then
      bif (A.inb i2 (A.ilen l1)) then
        c_197 (A.iget l1 i2) (fun r3 =>
          bif (A.not r3) then
            kret_0 false
          else
            spec_l4Regs_l0 A c_197 n l1 (A.add .i64 i2 1) kret_0 kx0_0)
      else
        none
    else
      kx0_0 ()
noncomputable def spec_l4Regs_f (A : PM.Prims) (c_197 : spec_l3Val_T) (l : List Int) (k : (Bool) → PM.R) : PM.R :=
  bif (A.not (A.eq (A.ilen l) 4)) then
    k false
  else
    spec_l4Regs_l0 A c_197 A.fuel l 0 (fun t245 =>
      k t245) (fun _ =>
      k true)
noncomputable def spec_l4Regs (A : PM.Prims) : spec_l4Regs_T := spec_l4Regs_f A (spec_l3Val A)
noncomputable def spec_l4Regs_L (A : PM.Prims) (c_197 : spec_l3Val_T) (n : Nat) : PM.Lam := fun cur σ K =>
  match cur, σ, K with
  | 0, ⟨[(0, .arr (.ints 3 .i64 l1)), (3, .int .i64 i2)], []⟩, K => spec_l4Regs_l0 A c_197 n l1 i2 (fun t24 => K .ret ⟨[(2, .bool t24)], []⟩) (fun _ => K (.exit 0) ⟨[], []⟩)
  | _, _, _ => none
noncomputable def spec_l4Regs_E (A : PM.Prims) (c_197 : spec_l3Val_T) : PM.Env := ⟨[(197, ⟨[], spec_l3Val_w c_197, none⟩)], [], [(0, [0, 3], [2])], [(0, [0]), (1, [0, 6]), (2, [2]), (3, [0, 3]), (4, [0, 3, 10]), (5, [0, 3]), (6, [0, 3, 18]), (7, [2]), (8, [2])], spec_l4Regs_L A c_197 A.fuel⟩
theorem spec_l4Regs_l0_ok (A : PM.Prims) (c_197 : spec_l3Val_T) (n : Nat) (l1 : List Int) (i2 : Int) (K : Go.Exit → PM.S → PM.R) : spec_l4Regs_L A c_197 (n + 1) 0 ⟨[(0, .arr (.ints 3 .i64 l1)), (3, .int .i64 i2)], []⟩ K = PM.roundF A cx (PM.runD A cx (spec_l4Regs_E A c_197).inl (spec_l4Regs_E A c_197).Γ 3) (spec_l4Regs_E A c_197) (spec_l4Regs_L A c_197 n) 0 Go.Proofs.Try.f163 ⟨[(0, .arr (.ints 3 .i64 l1)), (3, .int .i64 i2)], []⟩ K := by kernel_rfl
theorem spec_l4Regs_ok (A : PM.Prims) (c_197 : spec_l3Val_T) (l : List Int) (k : PM.V → PM.R) : PM.pfun A cx [] (spec_l4Regs_E A c_197) Go.Proofs.Try.f163 [.arr (.ints 3 .i64 l)] k = spec_l4Regs_f A c_197 l (fun r0 => k (.bool r0)) := by kernel_rfl

theorem spec_l4Regs_fn : PM.FnIs Try.prog 163 Try.f163 := .of Try.func163 (by kernel_rfl) (by kernel_rfl)
theorem spec_l4Regs_g : PM.GOk Try.prog cx 163 ⟨[], spec_l4Regs_w (spec_l4Regs PM.std), none⟩ := by
  refine ⟨spec_l4Regs_fn.enter, fun _ ds k r h => ?_, fun hm => absurd rfl hm, fun _ e => (by cases e)⟩
  change spec_l4Regs_w (spec_l4Regs PM.std) ds k = some r at h
  unfold spec_l4Regs_w at h
  split at h
  · exact PM.pfun_ok (E := spec_l4Regs_E PM.std (spec_l3Val PM.std)) (L := fun n => spec_l4Regs_L PM.std (spec_l3Val PM.std) n) (N := PM.std.fuel) cx_ok (.cons spec_l3Val_g .nil) mixed .nil spec_l4Regs_fn (by kernel_rfl) ⟨rfl, fun cur σ K => by
      dsimp only [spec_l4Regs_L]
      split <;> rfl, fun n cur σ K r h => by
      dsimp only [spec_l4Regs_L] at h
      split at h
      · exact (spec_l4Regs_l0_ok PM.std (spec_l3Val PM.std) n _ _ K).symm.trans h
      · cases h⟩
      ((spec_l4Regs_ok PM.std (spec_l3Val PM.std) _ k).trans h)
  · cases h

abbrev spec_l3Cell_T := (Int) → ((Bool) → PM.R) → PM.R
noncomputable def spec_l3Cell_w (c : spec_l3Cell_T) (ds : List PM.V) (k : PM.V → PM.R) : PM.R :=
  match ds with
  | [.int .i64 i] => c i (fun r0 => k (.bool r0))
  | _ => none
noncomputable def spec_l3Cell_f (A : PM.Prims) (c_103 : spec_l1In_T) (i : Int) (k : (Bool) → PM.R) : PM.R :=
  c_103 i 0 7 (fun r1 =>
    k r1)
noncomputable def spec_l3Cell (A : PM.Prims) : spec_l3Cell_T := spec_l3Cell_f A (spec_l1In A)
noncomputable def spec_l3Cell_L (A : PM.Prims) (c_103 : spec_l1In_T) (n : Nat) : PM.Lam := fun cur σ K =>
  match cur, σ, K with
  | _, _, _ => none
noncomputable def spec_l3Cell_E (A : PM.Prims) (c_103 : spec_l1In_T) : PM.Env := ⟨[(103, ⟨[], spec_l1In_w c_103, none⟩)], [], [], [(0, [0]), (1, [2])], spec_l3Cell_L A c_103 A.fuel⟩
theorem spec_l3Cell_ok (A : PM.Prims) (c_103 : spec_l1In_T) (i : Int) (k : PM.V → PM.R) : PM.pfun A cx [] (spec_l3Cell_E A c_103) Go.Proofs.Try.f140 [.int .i64 i] k = spec_l3Cell_f A c_103 i (fun r0 => k (.bool r0)) := by kernel_rfl

theorem spec_l3Cell_fn : PM.FnIs Try.prog 140 Try.f140 := .of Try.func140 (by kernel_rfl) (by kernel_rfl)
theorem spec_l3Cell_g : PM.GOk Try.prog cx 140 ⟨[], spec_l3Cell_w (spec_l3Cell PM.std), none⟩ := by
  refine ⟨spec_l3Cell_fn.enter, fun _ ds k r h => ?_, fun hm => absurd rfl hm, fun _ e => (by cases e)⟩
  change spec_l3Cell_w (spec_l3Cell PM.std) ds k = some r at h
  unfold spec_l3Cell_w at h
  split at h
  · exact PM.pfun_ok (E := spec_l3Cell_E PM.std (spec_l1In PM.std)) (L := fun n => spec_l3Cell_L PM.std (spec_l1In PM.std) n) (N := PM.std.fuel) cx_ok (.cons spec_l1In_g .nil) mixed .nil spec_l3Cell_fn (by kernel_rfl) ⟨rfl, fun _ _ _ => rfl, fun n cur σ K r h => by cases h⟩
      ((spec_l3Cell_ok PM.std (spec_l1In PM.std) _ k).trans h)
  · cases h

abbrev spec_RowsOk_T := (List (List Int)) → ((Bool) → PM.R) → PM.R
noncomputable def spec_RowsOk_w (c : spec_RowsOk_T) (ds : List PM.V) (k : PM.V → PM.R) : PM.R :=
  match ds with
  | [.arr (.vecs 161 2 l)] => c l (fun r0 => k (.bool r0))
  | _ => none
noncomputable def spec_RowsOk_l0 (A : PM.Prims) (c_197 : spec_l3Val_T) (c_140 : spec_l3Cell_T) : Nat → (List (List Int)) → (Int) → ((Bool) → PM.R) → (Unit → PM.R) → PM.R
  | 0, _, _, _, _ => none
  | n + 1, l1, i2, kret_0, kx0_0 =>
    bif (A.lt i2 (A.vlen l1)) then
      bif (A.inb i2 (A.vlen l1)) then
        c_140 (A.vget l1 i2 0) (fun r3 =>
          bif (A.not r3) then
            kret_0 false
          else
            bif (A.inb i2 (A.vlen l1)) then
              c_197 (A.vget l1 i2 1) (fun r5 =>
                bif (A.not r5) then
                  kret_0 false
                else
                  spec_RowsOk_l0 A c_197 c_140 n l1 (A.add .i64 i2 1) kret_0 kx0_0)
            else
              none)
      else
        none
    else
      kx0_0 ()
noncomputable def spec_RowsOk_f (A : PM.Prims) (c_197 : spec_l3Val_T) (c_140 : spec_l3Cell_T) (l : List (List Int)) (k : (Bool) → PM.R) : PM.R :=
  bif (A.lt 300 (A.vlen l)) then
    k false
  else
    spec_RowsOk_l0 A c_197 c_140 A.fuel l 0 (fun t246 =>
      k t246) (fun _ =>
      k true)
noncomputable def spec_RowsOk (A : PM.Prims) : spec_RowsOk_T := spec_RowsOk_f A (spec_l3Val A) (spec_l3Cell A)
noncomputable def spec_RowsOk_L (A : PM.Prims) (c_197 : spec_l3Val_T) (c_140 : spec_l3Cell_T) (n : Nat) : PM.Lam := fun cur σ K =>
  match cur, σ, K with
  | 0, ⟨[(0, .arr (.vecs 161 2 l1)), (3, .int .i64 i2)], []⟩, K => spec_RowsOk_l0 A c_197 c_140 n l1 i2 (fun t24 => K .ret ⟨[(2, .bool t24)], []⟩) (fun _ => K (.exit 0) ⟨[], []⟩)
  | _, _, _ => none
noncomputable def spec_RowsOk_E (A : PM.Prims) (c_197 : spec_l3Val_T) (c_140 : spec_l3Cell_T) : PM.Env := ⟨[(197, ⟨[], spec_l3Val_w c_197, none⟩), (140, ⟨[], spec_l3Cell_w c_140, none⟩)], [], [(0, [0, 3], [2])], [(0, [0]), (1, [0, 6]), (2, [2]), (3, [0, 3]), (4, [0, 3, 10]), (5, [0, 3]), (6, [0, 3, 28]), (7, [2]), (8, [2])], spec_RowsOk_L A c_197 c_140 A.fuel⟩
theorem spec_RowsOk_l0_ok (A : PM.Prims) (c_197 : spec_l3Val_T) (c_140 : spec_l3Cell_T) (n : Nat) (l1 : List (List Int)) (i2 : Int) (K : Go.Exit → PM.S → PM.R) : spec_RowsOk_L A c_197 c_140 (n + 1) 0 ⟨[(0, .arr (.vecs 161 2 l1)), (3, .int .i64 i2)], []⟩ K = PM.roundF A cx (PM.runD A cx (spec_RowsOk_E A c_197 c_140).inl (spec_RowsOk_E A c_197 c_140).Γ 3) (spec_RowsOk_E A c_197 c_140) (spec_RowsOk_L A c_197 c_140 n) 0 Go.Proofs.Try.f104 ⟨[(0, .arr (.vecs 161 2 l1)), (3, .int .i64 i2)], []⟩ K := by kernel_rfl
theorem spec_RowsOk_ok (A : PM.Prims) (c_197 : spec_l3Val_T) (c_140 : spec_l3Cell_T) (l : List (List Int)) (k : PM.V → PM.R) : PM.pfun A cx [] (spec_RowsOk_E A c_197 c_140) Go.Proofs.Try.f104 [.arr (.vecs 161 2 l)] k = spec_RowsOk_f A c_197 c_140 l (fun r0 => k (.bool r0)) := by kernel_rfl

theorem spec_RowsOk_fn : PM.FnIs Try.prog 104 Try.f104 := .of Try.func104 (by kernel_rfl) (by kernel_rfl)
theorem spec_RowsOk_g : PM.GOk Try.prog cx 104 ⟨[], spec_RowsOk_w (spec_RowsOk PM.std), none⟩ := by
  refine ⟨spec_RowsOk_fn.enter, fun _ ds k r h => ?_, fun hm => absurd rfl hm, fun _ e => (by cases e)⟩
  change spec_RowsOk_w (spec_RowsOk PM.std) ds k = some r at h
  unfold spec_RowsOk_w at h
  split at h
  · exact PM.pfun_ok (E := spec_RowsOk_E PM.std (spec_l3Val PM.std) (spec_l3Cell PM.std)) (L := fun n => spec_RowsOk_L PM.std (spec_l3Val PM.std) (spec_l3Cell PM.std) n) (N := PM.std.fuel) cx_ok (.cons spec_l3Val_g (.cons spec_l3Cell_g .nil)) mixed .nil spec_RowsOk_fn (by kernel_rfl) ⟨rfl, fun cur σ K => by
      dsimp only [spec_RowsOk_L]
      split <;> rfl, fun n cur σ K r h => by
      dsimp only [spec_RowsOk_L] at h
      split at h
      · exact (spec_RowsOk_l0_ok PM.std (spec_l3Val PM.std) (spec_l3Cell PM.std) n _ _ K).symm.trans h
      · cases h⟩
      ((spec_RowsOk_ok PM.std (spec_l3Val PM.std) (spec_l3Cell PM.std) _ k).trans h)
  · cases h

abbrev spec_l4Reg_T := (Int) → ((Bool) → PM.R) → PM.R
noncomputable def spec_l4Reg_w (c : spec_l4Reg_T) (ds : List PM.V) (k : PM.V → PM.R) : PM.R :=
  match ds with
  | [.int .i64 i] => c i (fun r0 => k (.bool r0))
  | _ => none
noncomputable def spec_l4Reg_f (A : PM.Prims) (c_103 : spec_l1In_T) (i : Int) (k : (Bool) → PM.R) : PM.R :=
  c_103 i 0 3 (fun r1 =>
    k r1)
noncomputable def spec_l4Reg (A : PM.Prims) : spec_l4Reg_T := spec_l4Reg_f A (spec_l1In A)
noncomputable def spec_l4Reg_L (A : PM.Prims) (c_103 : spec_l1In_T) (n : Nat) : PM.Lam := fun cur σ K =>
  match cur, σ, K with
  | _, _, _ => none
noncomputable def spec_l4Reg_E (A : PM.Prims) (c_103 : spec_l1In_T) : PM.Env := ⟨[(103, ⟨[], spec_l1In_w c_103, none⟩)], [], [], [(0, [0]), (1, [2])], spec_l4Reg_L A c_103 A.fuel⟩
theorem spec_l4Reg_ok (A : PM.Prims) (c_103 : spec_l1In_T) (i : Int) (k : PM.V → PM.R) : PM.pfun A cx [] (spec_l4Reg_E A c_103) Go.Proofs.Try.f315 [.int .i64 i] k = spec_l4Reg_f A c_103 i (fun r0 => k (.bool r0)) := by kernel_rfl

theorem spec_l4Reg_fn : PM.FnIs Try.prog 315 Try.f315 := .of Try.func315 (by kernel_rfl) (by kernel_rfl)
theorem spec_l4Reg_g : PM.GOk Try.prog cx 315 ⟨[], spec_l4Reg_w (spec_l4Reg PM.std), none⟩ := by
  refine ⟨spec_l4Reg_fn.enter, fun _ ds k r h => ?_, fun hm => absurd rfl hm, fun _ e => (by cases e)⟩
  change spec_l4Reg_w (spec_l4Reg PM.std) ds k = some r at h
  unfold spec_l4Reg_w at h
  split at h
  · exact PM.pfun_ok (E := spec_l4Reg_E PM.std (spec_l1In PM.std)) (L := fun n => spec_l4Reg_L PM.std (spec_l1In PM.std) n) (N := PM.std.fuel) cx_ok (.cons spec_l1In_g .nil) mixed .nil spec_l4Reg_fn (by kernel_rfl) ⟨rfl, fun _ _ _ => rfl, fun n cur σ K r h => by cases h⟩
      ((spec_l4Reg_ok PM.std (spec_l1In PM.std) _ k).trans h)
  · cases h

abbrev spec_OpOk_T := (Int) → (Int) → (Int) → (Int) → ((Bool) → PM.R) → PM.R
noncomputable def spec_OpOk_w (c : spec_OpOk_T) (ds : List PM.V) (k : PM.V → PM.R) : PM.R :=
  match ds with
  | [.agg [.int .i64 ___Kind, .int .i64 ___A, .int .i64 ___B, .int .i64 ___C]] => c ___Kind ___A ___B ___C (fun r0 => k (.bool r0))
  | _ => none
noncomputable def spec_OpOk_f (A : PM.Prims) (c_103 : spec_l1In_T) (c_197 : spec_l3Val_T) (c_140 : spec_l3Cell_T) (c_315 : spec_l4Reg_T) (___Kind : Int) (___A : Int) (___B : Int) (___C : Int) (k : (Bool) → PM.R) : PM.R :=
  bif (A.eq ___Kind 1) then
    c_315 ___A (fun r1 =>
      bif r1 then
        c_197 ___B (fun r2 =>
          bif r2 then
            k (A.eq ___C 0)
          else
            k false)
      else
        k false)
  else
    bif (A.eq ___Kind 2) then
      c_315 ___A (fun r3 =>
        bif r3 then
          c_315 ___B (fun r4 =>
            bif r4 then
              c_315 ___C (fun r5 =>
                k r5)
            else
              k false)
        else
          k false)
    else
      bif (A.eq ___Kind 3) then
        c_315 ___A (fun r6 =>
          bif r6 then
            c_315 ___B (fun r7 =>
              bif r7 then
                c_315 ___C (fun r8 =>
                  k r8)
              else
                k false)
          else
            k false)
      else
        bif (A.eq ___Kind 4) then
          c_315 ___A (fun r9 =>
            bif r9 then
              c_315 ___B (fun r10 =>
                bif r10 then
                  c_315 ___C (fun r11 =>
                    k r11)
                else
                  k false)
            else
              k false)
        else
          bif (A.eq ___Kind 5) then
            c_315 ___A (fun r12 =>
              bif r12 then
                c_140 ___B (fun r13 =>
                  bif r13 then
                    k (A.eq ___C 0)
                  else
                    k false)
              else
                k false)
          else
            bif (A.eq ___Kind 6) then
              c_140 ___A (fun r14 =>
                bif r14 then
                  c_315 ___B (fun r15 =>
                    bif r15 then
                      k (A.eq ___C 0)
                    else
                      k false)
                else
                  k false)
            else
              bif (A.eq ___Kind 7) then
                c_315 ___A (fun r16 =>
                  bif r16 then
                    c_103 ___B 1 20 (fun r17 =>
                      bif r17 then
                        k (A.eq ___C 0)
                      else
                        k false)
                  else
                    k false)
              else
                bif (A.eq ___Kind 8) then
                  c_315 ___A (fun r18 =>
                    bif r18 then
                      bif (A.eq ___B 0) then
                        k (A.eq ___C 0)
                      else
                        k false
                    else
                      k false)
                else
                  bif (A.eq ___Kind 15) then
                    c_315 ___A (fun r19 =>
                      bif r19 then
                        bif (A.eq ___B 0) then
                          k (A.eq ___C 0)
                        else
                          k false
                      else
                        k false)
                  else
                    bif (A.eq ___Kind 16) then
                      c_315 ___A (fun r20 =>
                        bif r20 then
                          bif (A.eq ___B 0) then
                            k (A.eq ___C 0)
                          else
                            k false
                        else
                          k false)
                    else
                      bif (A.eq ___Kind 9) then
                        bif (A.eq ___A 0) then
                          bif (A.eq ___B 0) then
                            k (A.eq ___C 0)
                          else
                            k false
                        else
                          k false
                      else
                        bif (A.eq ___Kind 10) then
                          bif (A.eq ___A 0) then
                            bif (A.eq ___B 0) then
                              k (A.eq ___C 0)
                            else
                              k false
                          else
                            k false
                        else
                          bif (A.eq ___Kind 11) then
                            bif (A.eq ___A 0) then
                              bif (A.eq ___B 0) then
                                k (A.eq ___C 0)
                              else
                                k false
                            else
                              k false
                          else
                            bif (A.eq ___Kind 12) then
                              c_103 ___A 0 7 (fun r21 =>
                                bif r21 then
                                  c_315 ___B (fun r22 =>
                                    bif r22 then
                                      c_315 ___C (fun r23 =>
                                        k r23)
                                    else
                                      k false)
                                else
                                  k false)
                            else
                              bif (A.eq ___Kind 13) then
                                c_315 ___A (fun r24 =>
                                  bif r24 then
                                    c_103 ___B 0 7 (fun r25 =>
                                      bif r25 then
                                        k (A.eq ___C 0)
                                      else
                                        k false)
                                  else
                                    k false)
                              else
                                bif (A.eq ___Kind 14) then
                                  c_103 ___A 0 7 (fun r26 =>
                                    bif r26 then
                                      c_315 ___B (fun r27 =>
                                        bif r27 then
                                          k (A.eq ___C 0)
                                        else
                                          k false)
                                    else
                                      k false)
                                else
                                  k false
noncomputable def spec_OpOk (A : PM.Prims) : spec_OpOk_T := spec_OpOk_f A (spec_l1In A) (spec_l3Val A) (spec_l3Cell A) (spec_l4Reg A)
noncomputable def spec_OpOk_L (A : PM.Prims) (c_103 : spec_l1In_T) (c_197 : spec_l3Val_T) (c_140 : spec_l3Cell_T) (c_315 : spec_l4Reg_T) (n : Nat) : PM.Lam := fun cur σ K =>
  match cur, σ, K with
  | _, _, _ => none
noncomputable def spec_OpOk_E (A : PM.Prims) (c_103 : spec_l1In_T) (c_197 : spec_l3Val_T) (c_140 : spec_l3Cell_T) (c_315 : spec_l4Reg_T) : PM.Env := ⟨[(103, ⟨[], spec_l1In_w c_103, none⟩), (197, ⟨[], spec_l3Val_w c_197, none⟩), (140, ⟨[], spec_l3Cell_w c_140, none⟩), (315, ⟨[], spec_l4Reg_w c_315, none⟩)], [], [], [(0, [1]), (1, [1, 4]), (2, [1, 4, 5]), (3, [2]), (4, [1, 4, 20]), (5, [1, 4, 20]), (6, [1, 4, 20]), (7, [2]), (8, [1, 4, 37]), (9, [2]), (10, [1, 4, 52]), (11, [2]), (12, [1, 4, 67]), (13, [2]), (14, [1, 4, 82]), (15, [1, 4, 82]), (16, [1, 4, 82]), (17, [2]), (18, [1, 4, 99]), (19, [1, 4, 99]), (20, [1, 4, 99]), (21, [2]), (22, [1, 4, 116]), (23, [2]), (24, [1, 4, 131]), (25, [2]), (26, [1, 146]), (27, [2]), (28, [2])], spec_OpOk_L A c_103 c_197 c_140 c_315 A.fuel⟩
theorem spec_OpOk_ok (A : PM.Prims) (c_103 : spec_l1In_T) (c_197 : spec_l3Val_T) (c_140 : spec_l3Cell_T) (c_315 : spec_l4Reg_T) (___Kind : Int) (___A : Int) (___B : Int) (___C : Int) (k : PM.V → PM.R) : PM.pfun A cx [] (spec_OpOk_E A c_103 c_197 c_140 c_315) Go.Proofs.Try.f280 [.agg [.int .i64 ___Kind, .int .i64 ___A, .int .i64 ___B, .int .i64 ___C]] k = spec_OpOk_f A c_103 c_197 c_140 c_315 ___Kind ___A ___B ___C (fun r0 => k (.bool r0)) := by kernel_rfl

theorem spec_OpOk_fn : PM.FnIs Try.prog 280 Try.f280 := .of Try.func280 (by kernel_rfl) (by kernel_rfl)
theorem spec_OpOk_g : PM.GOk Try.prog cx 280 ⟨[], spec_OpOk_w (spec_OpOk PM.std), none⟩ := by
  refine ⟨spec_OpOk_fn.enter, fun _ ds k r h => ?_, fun hm => absurd rfl hm, fun _ e => (by cases e)⟩
  change spec_OpOk_w (spec_OpOk PM.std) ds k = some r at h
  unfold spec_OpOk_w at h
  split at h
  · exact PM.pfun_ok (E := spec_OpOk_E PM.std (spec_l1In PM.std) (spec_l3Val PM.std) (spec_l3Cell PM.std) (spec_l4Reg PM.std)) (L := fun n => spec_OpOk_L PM.std (spec_l1In PM.std) (spec_l3Val PM.std) (spec_l3Cell PM.std) (spec_l4Reg PM.std) n) (N := PM.std.fuel) cx_ok (.cons spec_l1In_g (.cons spec_l3Val_g (.cons spec_l3Cell_g (.cons spec_l4Reg_g .nil)))) mixed .nil spec_OpOk_fn (by kernel_rfl) ⟨rfl, fun _ _ _ => rfl, fun n cur σ K r h => by cases h⟩
      ((spec_OpOk_ok PM.std (spec_l1In PM.std) (spec_l3Val PM.std) (spec_l3Cell PM.std) (spec_l4Reg PM.std) _ _ _ _ k).trans h)
  · cases h

abbrev spec_l5Skip_T := (List (List Int)) → (Int) → ((Bool) → PM.R) → PM.R
noncomputable def spec_l5Skip_w (c : spec_l5Skip_T) (ds : List PM.V) (k : PM.V → PM.R) : PM.R :=
  match ds with
  | [.arr (.vecs 312 4 code), .int .i64 i] => c code i (fun r0 => k (.bool r0))
  | _ => none
noncomputable def spec_l5Skip_l0 (A : PM.Prims) : Nat → (List (List Int)) → (Int) → (Int) → (Int) → ((Bool) → PM.R) → ((Int) → PM.R) → PM.R
  | 0, _, _, _, _, _, _ => none
  | n + 1, code1, to2, d3, k4, kret_0, kx0_0 =>
    bif (A.lt k4 to2) then
      bif (A.inb k4 (A.vlen code1)) then
        bif (A.eq (A.vget code1 k4 0) 8) then
          bif (A.inb k4 (A.vlen code1)) then
            bif (A.eq (A.vget code1 k4 0) 9) then
              bif (A.lt (A.sub .i64 (A.add .i64 d3 1) 1) 0) then
                kret_0 false
              else
                spec_l5Skip_l0 A n code1 to2 (A.sub .i64 (A.add .i64 d3 1) 1) (A.add .i64 k4 1) kret_0 kx0_0
            else
              bif (A.lt (A.add .i64 d3 1) 0) then
                kret_0 false
              else
                spec_l5Skip_l0 A n code1 to2 (A.add .i64 d3 1) (A.add .i64 k4 1) kret_0 kx0_0
          else
            none
        else
          bif (A.inb k4 (A.vlen code1)) then
            bif (A.eq (A.vget code1 k4 0) 9) then
              bif (A.lt (A.sub .i64 d3 1) 0) then
                kret_0 false
              else
                spec_l5Skip_l0 A n code1 to2 (A.sub .i64 d3 1) (A.add .i64 k4 1) kret_0 kx0_0
            else
              bif (A.lt d3 0) then
                kret_0 false
              else
                spec_l5Skip_l0 A n code1 to2 d3 (A.add .i64 k4 1) kret_0 kx0_0
          else
            none
      else
        none
    else
      kx0_0 d3
noncomputable def spec_l5Skip_f (A : PM.Prims) (code : List (List Int)) (i : Int) (k : (Bool) → PM.R) : PM.R :=
  bif (A.inb i (A.vlen code)) then
    bif (A.lt (A.vlen code) (A.add .i64 (A.add .i64 i 1) (A.vget code i 2))) then
      k false
    else
      spec_l5Skip_l0 A A.fuel code (A.add .i64 (A.add .i64 i 1) (A.vget code i 2)) 0 (A.add .i64 i 1) (fun t457 =>
        k t457) (fun d68 =>
        k (A.eq d68 0))
  else
    none
noncomputable def spec_l5Skip (A : PM.Prims) : spec_l5Skip_T := spec_l5Skip_f A
noncomputable def spec_l5Skip_L (A : PM.Prims) (n : Nat) : PM.Lam := fun cur σ K =>
  match cur, σ, K with
  | 0, ⟨[(0, .arr (.vecs 312 4 code1)), (5, .int .i64 to2), (6, .int .i64 d3), (7, .int .i64 k4)], []⟩, K => spec_l5Skip_l0 A n code1 to2 d3 k4 (fun t45 => K .ret ⟨[(4, .bool t45)], []⟩) (fun d6 => K (.exit 0) ⟨[(6, .int .i64 d6)], []⟩)
  | _, _, _ => none
noncomputable def spec_l5Skip_E (A : PM.Prims) : PM.Env := ⟨[], [], [(0, [0, 5, 6, 7], [4, 6])], [(0, [0, 1]), (1, [0, 1, 5]), (2, [0, 1, 5, 19]), (3, [4]), (4, [0, 1, 5, 6]), (5, [0, 5, 6, 7]), (6, [0, 5, 6, 7, 24]), (7, [0, 5, 6, 7]), (8, [0, 5, 6, 7, 32]), (9, [0, 5, 6, 7]), (10, [0, 5, 6, 7, 40]), (11, [0, 5, 6, 7]), (12, [0, 5, 6, 7, 44]), (13, [4]), (14, [4])], spec_l5Skip_L A A.fuel⟩
theorem spec_l5Skip_l0_ok (A : PM.Prims) (n : Nat) (code1 : List (List Int)) (to2 : Int) (d3 : Int) (k4 : Int) (K : Go.Exit → PM.S → PM.R) : spec_l5Skip_L A (n + 1) 0 ⟨[(0, .arr (.vecs 312 4 code1)), (5, .int .i64 to2), (6, .int .i64 d3), (7, .int .i64 k4)], []⟩ K = PM.roundF A cx (PM.runD A cx (spec_l5Skip_E A).inl (spec_l5Skip_E A).Γ 3) (spec_l5Skip_E A) (spec_l5Skip_L A n) 0 Go.Proofs.Try.f281 ⟨[(0, .arr (.vecs 312 4 code1)), (5, .int .i64 to2), (6, .int .i64 d3), (7, .int .i64 k4)], []⟩ K := by kernel_rfl
theorem spec_l5Skip_ok (A : PM.Prims) (code : List (List Int)) (i : Int) (k : PM.V → PM.R) : PM.pfun A cx [] (spec_l5Skip_E A) Go.Proofs.Try.f281 [.arr (.vecs 312 4 code), .int .i64 i] k = spec_l5Skip_f A code i (fun r0 => k (.bool r0)) := by kernel_rfl

theorem spec_l5Skip_fn : PM.FnIs Try.prog 281 Try.f281 := .of Try.func281 (by kernel_rfl) (by kernel_rfl)
theorem spec_l5Skip_g : PM.GOk Try.prog cx 281 ⟨[], spec_l5Skip_w (spec_l5Skip PM.std), none⟩ := by
  refine ⟨spec_l5Skip_fn.enter, fun _ ds k r h => ?_, fun hm => absurd rfl hm, fun _ e => (by cases e)⟩
  change spec_l5Skip_w (spec_l5Skip PM.std) ds k = some r at h
  unfold spec_l5Skip_w at h
  split at h
  · exact PM.pfun_ok (E := spec_l5Skip_E PM.std) (L := fun n => spec_l5Skip_L PM.std n) (N := PM.std.fuel) cx_ok .nil mixed .nil spec_l5Skip_fn (by kernel_rfl) ⟨rfl, fun cur σ K => by
      dsimp only [spec_l5Skip_L]
      split <;> rfl, fun n cur σ K r h => by
      dsimp only [spec_l5Skip_L] at h
      split at h
      · exact (spec_l5Skip_l0_ok PM.std n _ _ _ _ K).symm.trans h
      · cases h⟩
      ((spec_l5Skip_ok PM.std _ _ k).trans h)
  · cases h

abbrev spec_CodeOk_T := (List (List Int)) → ((Bool) → PM.R) → PM.R
noncomputable def spec_CodeOk_w (c : spec_CodeOk_T) (ds : List PM.V) (k : PM.V → PM.R) : PM.R :=
  match ds with
  | [.arr (.vecs 312 4 code)] => c code (fun r0 => k (.bool r0))
  | _ => none
noncomputable def spec_CodeOk_l0 (A : PM.Prims) (c_280 : spec_OpOk_T) (c_281 : spec_l5Skip_T) : Nat → (List (List Int)) → (Int) → (Int) → (Int) → ((Bool) → PM.R) → ((Int) → PM.R) → PM.R
  | 0, _, _, _, _, _, _ => none
  | n + 1, code1, d2, forks3, i4, kret_0, kx0_0 =>
    bif (A.lt i4 (A.vlen code1)) then
      bif (A.inb i4 (A.vlen code1)) then
        c_280 (A.vget code1 i4 0) (A.vget code1 i4 1) (A.vget code1 i4 2) (A.vget code1 i4 3) (fun r5 =>
          bif (A.not r5) then
            kret_0 false
          else
            bif (A.inb i4 (A.vlen code1)) then
              bif (A.eq (A.vget code1 i4 0) 8) then
                bif (A.lt (A.add .i64 d2 1) 0) then
                  kret_0 false
                else
                  spec_CodeOk_l0 A c_280 c_281 n code1 (A.add .i64 d2 1) forks3 (A.add .i64 i4 1) kret_0 kx0_0
              else
                bif (A.eq (A.vget code1 i4 0) 9) then
                  bif (A.lt (A.sub .i64 d2 1) 0) then
                    kret_0 false
                  else
                    spec_CodeOk_l0 A c_280 c_281 n code1 (A.sub .i64 d2 1) forks3 (A.add .i64 i4 1) kret_0 kx0_0
                else
                  bif (A.eq (A.vget code1 i4 0) 7) then
                    c_281 code1 i4 (fun r7 =>
                      bif (A.not r7) then
                        kret_0 false
                      else
                        bif (A.lt d2 0) then
                          kret_0 false
                        else
                          spec_CodeOk_l0 A c_280 c_281 n code1 d2 forks3 (A.add .i64 i4 1) kret_0 kx0_0)
                  else
                    bif (A.eq (A.vget code1 i4 0) 11) then
                      bif (A.lt 0 d2) then
                        kret_0 false
                      else
                        bif (A.lt 1 (A.add .i64 forks3 1)) then
                          kret_0 false
                        else
                          bif (A.lt d2 0) then
                            kret_0 false
                          else
                            spec_CodeOk_l0 A c_280 c_281 n code1 d2 (A.add .i64 forks3 1) (A.add .i64 i4 1) kret_0 kx0_0
                    else
                      bif (A.lt d2 0) then
                        kret_0 false
                      else
                        spec_CodeOk_l0 A c_280 c_281 n code1 d2 forks3 (A.add .i64 i4 1) kret_0 kx0_0
            else
              none)
      else
        none
    else
      kx0_0 d2
noncomputable def spec_CodeOk_f (A : PM.Prims) (c_280 : spec_OpOk_T) (c_281 : spec_l5Skip_T) (code : List (List Int)) (k : (Bool) → PM.R) : PM.R :=
  bif (A.lt 24 (A.vlen code)) then
    k false
  else
    spec_CodeOk_l0 A c_280 c_281 A.fuel code 0 0 0 (fun t269 =>
      k t269) (fun d810 =>
      k (A.eq d810 0))
noncomputable def spec_CodeOk (A : PM.Prims) : spec_CodeOk_T := spec_CodeOk_f A (spec_OpOk A) (spec_l5Skip A)
noncomputable def spec_CodeOk_L (A : PM.Prims) (c_280 : spec_OpOk_T) (c_281 : spec_l5Skip_T) (n : Nat) : PM.Lam := fun cur σ K =>
  match cur, σ, K with
  | 0, ⟨[(0, .arr (.vecs 312 4 code1)), (3, .int .i64 d2), (4, .int .i64 forks3), (5, .int .i64 i4)], []⟩, K => spec_CodeOk_l0 A c_280 c_281 n code1 d2 forks3 i4 (fun t26 => K .ret ⟨[(2, .bool t26)], []⟩) (fun d8 => K (.exit 0) ⟨[(3, .int .i64 d8)], []⟩)
  | _, _, _ => none
noncomputable def spec_CodeOk_E (A : PM.Prims) (c_280 : spec_OpOk_T) (c_281 : spec_l5Skip_T) : PM.Env := ⟨[(280, ⟨[], spec_OpOk_w c_280, none⟩), (281, ⟨[], spec_l5Skip_w c_281, none⟩)], [], [(0, [0, 3, 4, 5], [2, 3])], [(0, [0]), (1, [0, 8]), (2, [2]), (3, [0, 3]), (4, [0, 3, 4]), (5, [0, 3, 4, 5]), (6, [0, 3, 4, 5, 12]), (7, [0, 3, 4, 5]), (8, [0, 3, 4, 5, 20]), (9, [2]), (10, [0, 3, 4, 5, 25]), (11, [0, 3, 4, 5, 25, 26]), (12, [0, 3, 4, 5]), (13, [0, 3, 4, 5, 25, 30]), (14, [0, 3, 4, 5]), (15, [0, 3, 4, 5, 25, 34]), (16, [0, 3, 4, 5, 39]), (17, [2]), (18, [0, 3, 4, 5, 40]), (19, [0, 3, 4, 5]), (20, [0, 3, 4, 5, 49]), (21, [2]), (22, [0, 3, 4, 5, 51]), (23, [2]), (24, [2])], spec_CodeOk_L A c_280 c_281 A.fuel⟩
theorem spec_CodeOk_l0_ok (A : PM.Prims) (c_280 : spec_OpOk_T) (c_281 : spec_l5Skip_T) (n : Nat) (code1 : List (List Int)) (d2 : Int) (forks3 : Int) (i4 : Int) (K : Go.Exit → PM.S → PM.R) : spec_CodeOk_L A c_280 c_281 (n + 1) 0 ⟨[(0, .arr (.vecs 312 4 code1)), (3, .int .i64 d2), (4, .int .i64 forks3), (5, .int .i64 i4)], []⟩ K = PM.roundF A cx (PM.runD A cx (spec_CodeOk_E A c_280 c_281).inl (spec_CodeOk_E A c_280 c_281).Γ 3) (spec_CodeOk_E A c_280 c_281) (spec_CodeOk_L A c_280 c_281 n) 0 Go.Proofs.Try.f223 ⟨[(0, .arr (.vecs 312 4 code1)), (3, .int .i64 d2), (4, .int .i64 forks3), (5, .int .i64 i4)], []⟩ K := by kernel_rfl
theorem spec_CodeOk_ok (A : PM.Prims) (c_280 : spec_OpOk_T) (c_281 : spec_l5Skip_T) (code : List (List Int)) (k : PM.V → PM.R) : PM.pfun A cx [] (spec_CodeOk_E A c_280 c_281) Go.Proofs.Try.f223 [.arr (.vecs 312 4 code)] k = spec_CodeOk_f A c_280 c_281 code (fun r0 => k (.bool r0)) := by kernel_rfl

theorem spec_CodeOk_fn : PM.FnIs Try.prog 223 Try.f223 := .of Try.func223 (by kernel_rfl) (by kernel_rfl)
theorem spec_CodeOk_g : PM.GOk Try.prog cx 223 ⟨[], spec_CodeOk_w (spec_CodeOk PM.std), none⟩ := by
  refine ⟨spec_CodeOk_fn.enter, fun _ ds k r h => ?_, fun hm => absurd rfl hm, fun _ e => (by cases e)⟩
  change spec_CodeOk_w (spec_CodeOk PM.std) ds k = some r at h
  unfold spec_CodeOk_w at h
  split at h
  · exact PM.pfun_ok (E := spec_CodeOk_E PM.std (spec_OpOk PM.std) (spec_l5Skip PM.std)) (L := fun n => spec_CodeOk_L PM.std (spec_OpOk PM.std) (spec_l5Skip PM.std) n) (N := PM.std.fuel) cx_ok (.cons spec_OpOk_g (.cons spec_l5Skip_g .nil)) mixed .nil spec_CodeOk_fn (by kernel_rfl) ⟨rfl, fun cur σ K => by
      dsimp only [spec_CodeOk_L]
      split <;> rfl, fun n cur σ K r h => by
      dsimp only [spec_CodeOk_L] at h
      split at h
      · exact (spec_CodeOk_l0_ok PM.std (spec_OpOk PM.std) (spec_l5Skip PM.std) n _ _ _ _ K).symm.trans h
      · cases h⟩
      ((spec_CodeOk_ok PM.std (spec_OpOk PM.std) (spec_l5Skip PM.std) _ k).trans h)
  · cases h

abbrev spec_HasFork_T := (List (List Int)) → ((Bool) → PM.R) → PM.R
noncomputable def spec_HasFork_w (c : spec_HasFork_T) (ds : List PM.V) (k : PM.V → PM.R) : PM.R :=
  match ds with
  | [.arr (.vecs 312 4 code)] => c code (fun r0 => k (.bool r0))
  | _ => none
noncomputable def spec_HasFork_l0 (A : PM.Prims) : Nat → (List (List Int)) → (Int) → ((Bool) → PM.R) → (Unit → PM.R) → PM.R
  | 0, _, _, _, _ => none
  | n + 1, code1, i2, kret_0, kx0_0 =>
    bif (A.lt i2 (A.vlen code1)) then
      bif (A.inb i2 (A.vlen code1)) then
        bif (A.eq (A.vget code1 i2 0) 11) then
          kret_0 true
        else
          spec_HasFork_l0 A n code1 (A.add .i64 i2 1) kret_0 kx0_0
      else
        none
    else
      kx0_0 ()
noncomputable def spec_HasFork_f (A : PM.Prims) (code : List (List Int)) (k : (Bool) → PM.R) : PM.R :=
  spec_HasFork_l0 A A.fuel code 0 (fun t234 =>
    k t234) (fun _ =>
    k false)
noncomputable def spec_HasFork (A : PM.Prims) : spec_HasFork_T := spec_HasFork_f A
noncomputable def spec_HasFork_L (A : PM.Prims) (n : Nat) : PM.Lam := fun cur σ K =>
  match cur, σ, K with
  | 0, ⟨[(0, .arr (.vecs 312 4 code1)), (3, .int .i64 i2)], []⟩, K => spec_HasFork_l0 A n code1 i2 (fun t23 => K .ret ⟨[(2, .bool t23)], []⟩) (fun _ => K (.exit 0) ⟨[], []⟩)
  | _, _, _ => none
noncomputable def spec_HasFork_E (A : PM.Prims) : PM.Env := ⟨[], [], [(0, [0, 3], [2])], [(0, [0]), (1, [0, 3]), (2, [0, 3, 7]), (3, [0, 3]), (4, [0, 3, 15]), (5, [2]), (6, [2])], spec_HasFork_L A A.fuel⟩
theorem spec_HasFork_l0_ok (A : PM.Prims) (n : Nat) (code1 : List (List Int)) (i2 : Int) (K : Go.Exit → PM.S → PM.R) : spec_HasFork_L A (n + 1) 0 ⟨[(0, .arr (.vecs 312 4 code1)), (3, .int .i64 i2)], []⟩ K = PM.roundF A cx (PM.runD A cx (spec_HasFork_E A).inl (spec_HasFork_E A).Γ 3) (spec_HasFork_E A) (spec_HasFork_L A n) 0 Go.Proofs.Try.f224 ⟨[(0, .arr (.vecs 312 4 code1)), (3, .int .i64 i2)], []⟩ K := by kernel_rfl
theorem spec_HasFork_ok (A : PM.Prims) (code : List (List Int)) (k : PM.V → PM.R) : PM.pfun A cx [] (spec_HasFork_E A) Go.Proofs.Try.f224 [.arr (.vecs 312 4 code)] k = spec_HasFork_f A code (fun r0 => k (.bool r0)) := by kernel_rfl

theorem spec_HasFork_fn : PM.FnIs Try.prog 224 Try.f224 := .of Try.func224 (by kernel_rfl) (by kernel_rfl)
theorem spec_HasFork_g : PM.GOk Try.prog cx 224 ⟨[], spec_HasFork_w (spec_HasFork PM.std), none⟩ := by
  refine ⟨spec_HasFork_fn.enter, fun _ ds k r h => ?_, fun hm => absurd rfl hm, fun _ e => (by cases e)⟩
  change spec_HasFork_w (spec_HasFork PM.std) ds k = some r at h
  unfold spec_HasFork_w at h
  split at h
  · exact PM.pfun_ok (E := spec_HasFork_E PM.std) (L := fun n => spec_HasFork_L PM.std n) (N := PM.std.fuel) cx_ok .nil mixed .nil spec_HasFork_fn (by kernel_rfl) ⟨rfl, fun cur σ K => by
      dsimp only [spec_HasFork_L]
      split <;> rfl, fun n cur σ K r h => by
      dsimp only [spec_HasFork_L] at h
      split at h
      · exact (spec_HasFork_l0_ok PM.std n _ _ K).symm.trans h
      · cases h⟩
      ((spec_HasFork_ok PM.std _ k).trans h)
  · cases h

abbrev spec_Touches_T := (Int) → (Int) → (Int) → (Int) → ((Int) → PM.R) → PM.R
noncomputable def spec_Touches_w (c : spec_Touches_T) (ds : List PM.V) (k : PM.V → PM.R) : PM.R :=
  match ds with
  | [.agg [.int .i64 o_Kind, .int .i64 o_A, .int .i64 o_B, .int .i64 o_C]] => c o_Kind o_A o_B o_C (fun r0 => k (.int .i64 r0))
  | _ => none
noncomputable def spec_Touches_f (A : PM.Prims) (c_280 : spec_OpOk_T) (o_Kind : Int) (o_A : Int) (o_B : Int) (o_C : Int) (k : (Int) → PM.R) : PM.R :=
  c_280 o_Kind o_A o_B o_C (fun r1 =>
    bif (A.not r1) then
      k 0
    else
      bif (A.eq o_Kind 5) then
        k 1
      else
        bif (A.eq o_Kind 6) then
          k 1
        else
          bif (A.eq o_Kind 12) then
            k 2
          else
            bif (A.eq o_Kind 13) then
              k 2
            else
              bif (A.eq o_Kind 14) then
                k 2
              else
                bif (A.eq o_Kind 15) then
                  k 2
                else
                  bif (A.eq o_Kind 16) then
                    k 2
                  else
                    k 0)
noncomputable def spec_Touches (A : PM.Prims) : spec_Touches_T := spec_Touches_f A (spec_OpOk A)
noncomputable def spec_Touches_L (A : PM.Prims) (c_280 : spec_OpOk_T) (n : Nat) : PM.Lam := fun cur σ K =>
  match cur, σ, K with
  | _, _, _ => none
noncomputable def spec_Touches_E (A : PM.Prims) (c_280 : spec_OpOk_T) : PM.Env := ⟨[(280, ⟨[], spec_OpOk_w c_280, none⟩)], [], [], [(0, [1]), (1, [1, 5]), (2, [2]), (3, [7]), (4, [7, 8]), (5, [7, 8]), (6, [2]), (7, [7, 11]), (8, [7, 11]), (9, [7, 11]), (10, [7, 11]), (11, [11]), (12, [2]), (13, [2])], spec_Touches_L A c_280 A.fuel⟩
theorem spec_Touches_ok (A : PM.Prims) (c_280 : spec_OpOk_T) (o_Kind : Int) (o_A : Int) (o_B : Int) (o_C : Int) (k : PM.V → PM.R) : PM.pfun A cx [] (spec_Touches_E A c_280) Go.Proofs.Try.f225 [.agg [.int .i64 o_Kind, .int .i64 o_A, .int .i64 o_B, .int .i64 o_C]] k = spec_Touches_f A c_280 o_Kind o_A o_B o_C (fun r0 => k (.int .i64 r0)) := by kernel_rfl

theorem spec_Touches_fn : PM.FnIs Try.prog 225 Try.f225 := .of Try.func225 (by kernel_rfl) (by kernel_rfl)
theorem spec_Touches_g : PM.GOk Try.prog cx 225 ⟨[], spec_Touches_w (spec_Touches PM.std), none⟩ := by
  refine ⟨spec_Touches_fn.enter, fun _ ds k r h => ?_, fun hm => absurd rfl hm, fun _ e => (by cases e)⟩
  change spec_Touches_w (spec_Touches PM.std) ds k = some r at h
  unfold spec_Touches_w at h
  split at h
  · exact PM.pfun_ok (E := spec_Touches_E PM.std (spec_OpOk PM.std)) (L := fun n => spec_Touches_L PM.std (spec_OpOk PM.std) n) (N := PM.std.fuel) cx_ok (.cons spec_OpOk_g .nil) mixed .nil spec_Touches_fn (by kernel_rfl) ⟨rfl, fun _ _ _ => rfl, fun n cur σ K r h => by cases h⟩
      ((spec_Touches_ok PM.std (spec_OpOk PM.std) _ _ _ _ k).trans h)
  · cases h

abbrev spec_KidOk_T := (List (List Int)) → ((Bool) → PM.R) → PM.R
noncomputable def spec_KidOk_w (c : spec_KidOk_T) (ds : List PM.V) (k : PM.V → PM.R) : PM.R :=
  match ds with
  | [.arr (.vecs 312 4 code)] => c code (fun r0 => k (.bool r0))
  | _ => none
noncomputable def spec_KidOk_l0 (A : PM.Prims) (c_223 : spec_CodeOk_T) (c_224 : spec_HasFork_T) (c_225 : spec_Touches_T) : Nat → (List (List Int)) → (Int) → ((Bool) → PM.R) → (Unit → PM.R) → PM.R
  | 0, _, _, _, _ => none
  | n + 1, code3, i4, kret_0, kx0_0 =>
    bif (A.lt i4 (A.vlen code3)) then
      bif (A.inb i4 (A.vlen code3)) then
        c_225 (A.vget code3 i4 0) (A.vget code3 i4 1) (A.vget code3 i4 2) (A.vget code3 i4 3) (fun r5 =>
          bif (A.eq r5 2) then
            kret_0 false
          else
            spec_KidOk_l0 A c_223 c_224 c_225 n code3 (A.add .i64 i4 1) kret_0 kx0_0)
      else
        none
    else
      kx0_0 ()
noncomputable def spec_KidOk_f (A : PM.Prims) (c_223 : spec_CodeOk_T) (c_224 : spec_HasFork_T) (c_225 : spec_Touches_T) (code : List (List Int)) (k : (Bool) → PM.R) : PM.R :=
  c_223 code (fun r1 =>
    bif (A.not r1) then
      k false
    else
      c_224 code (fun r2 =>
        bif r2 then
          k false
        else
          spec_KidOk_l0 A c_223 c_224 c_225 A.fuel code 0 (fun t267 =>
            k t267) (fun _ =>
            k true)))
noncomputable def spec_KidOk (A : PM.Prims) : spec_KidOk_T := spec_KidOk_f A (spec_CodeOk A) (spec_HasFork A) (spec_Touches A)
noncomputable def spec_KidOk_L (A : PM.Prims) (c_223 : spec_CodeOk_T) (c_224 : spec_HasFork_T) (c_225 : spec_Touches_T) (n : Nat) : PM.Lam := fun cur σ K =>
  match cur, σ, K with
  | 0, ⟨[(0, .arr (.vecs 312 4 code3)), (3, .int .i64 i4)], []⟩, K => spec_KidOk_l0 A c_223 c_224 c_225 n code3 i4 (fun t26 => K .ret ⟨[(2, .bool t26)], []⟩) (fun _ => K (.exit 0) ⟨[], []⟩)
  | _, _, _ => none
noncomputable def spec_KidOk_E (A : PM.Prims) (c_223 : spec_CodeOk_T) (c_224 : spec_HasFork_T) (c_225 : spec_Touches_T) : PM.Env := ⟨[(223, ⟨[], spec_CodeOk_w c_223, none⟩), (224, ⟨[], spec_HasFork_w c_224, none⟩), (225, ⟨[], spec_Touches_w c_225, none⟩)], [], [(0, [0, 3], [2])], [(0, [0]), (1, [0, 10]), (2, [2]), (3, [0, 3]), (4, [0, 3, 14]), (5, [0, 3]), (6, [0, 3, 22]), (7, [2]), (8, [2])], spec_KidOk_L A c_223 c_224 c_225 A.fuel⟩
theorem spec_KidOk_l0_ok (A : PM.Prims) (c_223 : spec_CodeOk_T) (c_224 : spec_HasFork_T) (c_225 : spec_Touches_T) (n : Nat) (code3 : List (List Int)) (i4 : Int) (K : Go.Exit → PM.S → PM.R) : spec_KidOk_L A c_223 c_224 c_225 (n + 1) 0 ⟨[(0, .arr (.vecs 312 4 code3)), (3, .int .i64 i4)], []⟩ K = PM.roundF A cx (PM.runD A cx (spec_KidOk_E A c_223 c_224 c_225).inl (spec_KidOk_E A c_223 c_224 c_225).Γ 3) (spec_KidOk_E A c_223 c_224 c_225) (spec_KidOk_L A c_223 c_224 c_225 n) 0 Go.Proofs.Try.f164 ⟨[(0, .arr (.vecs 312 4 code3)), (3, .int .i64 i4)], []⟩ K := by kernel_rfl
theorem spec_KidOk_ok (A : PM.Prims) (c_223 : spec_CodeOk_T) (c_224 : spec_HasFork_T) (c_225 : spec_Touches_T) (code : List (List Int)) (k : PM.V → PM.R) : PM.pfun A cx [] (spec_KidOk_E A c_223 c_224 c_225) Go.Proofs.Try.f164 [.arr (.vecs 312 4 code)] k = spec_KidOk_f A c_223 c_224 c_225 code (fun r0 => k (.bool r0)) := by kernel_rfl

theorem spec_KidOk_fn : PM.FnIs Try.prog 164 Try.f164 := .of Try.func164 (by kernel_rfl) (by kernel_rfl)
theorem spec_KidOk_g : PM.GOk Try.prog cx 164 ⟨[], spec_KidOk_w (spec_KidOk PM.std), none⟩ := by
  refine ⟨spec_KidOk_fn.enter, fun _ ds k r h => ?_, fun hm => absurd rfl hm, fun _ e => (by cases e)⟩
  change spec_KidOk_w (spec_KidOk PM.std) ds k = some r at h
  unfold spec_KidOk_w at h
  split at h
  · exact PM.pfun_ok (E := spec_KidOk_E PM.std (spec_CodeOk PM.std) (spec_HasFork PM.std) (spec_Touches PM.std)) (L := fun n => spec_KidOk_L PM.std (spec_CodeOk PM.std) (spec_HasFork PM.std) (spec_Touches PM.std) n) (N := PM.std.fuel) cx_ok (.cons spec_CodeOk_g (.cons spec_HasFork_g (.cons spec_Touches_g .nil))) mixed .nil spec_KidOk_fn (by kernel_rfl) ⟨rfl, fun cur σ K => by
      dsimp only [spec_KidOk_L]
      split <;> rfl, fun n cur σ K r h => by
      dsimp only [spec_KidOk_L] at h
      split at h
      · exact (spec_KidOk_l0_ok PM.std (spec_CodeOk PM.std) (spec_HasFork PM.std) (spec_Touches PM.std) n _ _ K).symm.trans h
      · cases h⟩
      ((spec_KidOk_ok PM.std (spec_CodeOk PM.std) (spec_HasFork PM.std) (spec_Touches PM.std) _ k).trans h)
  · cases h

abbrev spec_FamOk_T := (List Int) → (List Int) → (List (List Int)) → (List (List PM.C)) → (List Int) → ((Bool) → PM.R) → PM.R
noncomputable def spec_FamOk_w (c : spec_FamOk_T) (ds : List PM.V) (k : PM.V → PM.R) : PM.R :=
  match ds with
  | [.agg [.arr (.ints 3 .i64 s_Cells), .arr (.ints 3 .i64 s_Regs), .arr (.vecs 161 2 s_Writes), .arr (.rows 233 s_Kids), .arr (.ints 3 .i64 s_Acts)]] => c s_Cells s_Regs s_Writes s_Kids s_Acts (fun r0 => k (.bool r0))
  | _ => none
noncomputable def spec_FamOk_l0 (A : PM.Prims) (c_103 : spec_l1In_T) (c_107 : spec_l3Vals_T) (c_104 : spec_RowsOk_T) (c_163 : spec_l4Regs_T) (c_164 : spec_KidOk_T) : Nat → (Int) → (List Int) → (List Int) → (List (List Int)) → (List (List C)) → (List Int) → ((Bool) → PM.R) → (Unit → PM.R) → PM.R
  | 0, _, _, _, _, _, _, _, _ => none
  | n + 1, i5, o06, o07, o08, o09, o010, kret_0, kx0_0 =>
    bif (A.lt i5 (A.rlen o09)) then
      bif (A.inb i5 (A.rlen o09)) then
        c_164 (A.rsv 4 o09 i5 0) (fun r11 =>
          bif (A.not r11) then
            kret_0 false
          else
            spec_FamOk_l0 A c_103 c_107 c_104 c_163 c_164 n (A.add .i64 i5 1) o06 o07 o08 o09 o010 kret_0 kx0_0)
      else
        none
    else
      kx0_0 ()
noncomputable def spec_FamOk_f (A : PM.Prims) (c_103 : spec_l1In_T) (c_107 : spec_l3Vals_T) (c_104 : spec_RowsOk_T) (c_163 : spec_l4Regs_T) (c_164 : spec_KidOk_T) (s_Cells : List Int) (s_Regs : List Int) (s_Writes : List (List Int)) (s_Kids : List (List PM.C)) (s_Acts : List Int) (k : (Bool) → PM.R) : PM.R :=
  c_107 s_Cells (fun r1 =>
    bif (A.not r1) then
      k false
    else
      c_163 s_Regs (fun r2 =>
        bif (A.not r2) then
          k false
        else
          c_104 s_Writes (fun r3 =>
            bif (A.not r3) then
              k false
            else
              c_103 (A.rlen s_Kids) 1 3 (fun r4 =>
                bif (A.not r4) then
                  k false
                else
                  bif (A.lt 300 (A.ilen s_Acts)) then
                    k false
                  else
                    spec_FamOk_l0 A c_103 c_107 c_104 c_163 c_164 A.fuel 0 s_Cells s_Regs s_Writes s_Kids s_Acts (fun t21213 =>
                      k t21213) (fun _ =>
                      k true)))))
noncomputable def spec_FamOk (A : PM.Prims) : spec_FamOk_T := spec_FamOk_f A (spec_l1In A) (spec_l3Vals A) (spec_RowsOk A) (spec_l4Regs A) (spec_KidOk A)
noncomputable def spec_FamOk_L (A : PM.Prims) (c_103 : spec_l1In_T) (c_107 : spec_l3Vals_T) (c_104 : spec_RowsOk_T) (c_163 : spec_l4Regs_T) (c_164 : spec_KidOk_T) (n : Nat) : PM.Lam := fun cur σ K =>
  match cur, σ, K with
  | 0, ⟨[(1, .pbox 0 0), (3, .int .i64 i5)], [(0, .box [.arr (.ints 3 .i64 o06), .arr (.ints 3 .i64 o07), .arr (.vecs 161 2 o08), .arr (.rows 233 o09), .arr (.ints 3 .i64 o010)])]⟩, K => spec_FamOk_l0 A c_103 c_107 c_104 c_163 c_164 n i5 o06 o07 o08 o09 o010 (fun t212 => K .ret ⟨[(2, .bool t212)], []⟩) (fun _ => K (.exit 0) ⟨[], []⟩)
  | _, _, _ => none
noncomputable def spec_FamOk_E (A : PM.Prims) (c_103 : spec_l1In_T) (c_107 : spec_l3Vals_T) (c_104 : spec_RowsOk_T) (c_163 : spec_l4Regs_T) (c_164 : spec_KidOk_T) : PM.Env := ⟨[(103, ⟨[], spec_l1In_w c_103, none⟩), (107, ⟨[], spec_l3Vals_w c_107, none⟩), (104, ⟨[], spec_RowsOk_w c_104, none⟩), (163, ⟨[], spec_l4Regs_w c_163, none⟩), (164, ⟨[], spec_KidOk_w c_164, none⟩)], [], [(0, [1, 3], [2])], [(0, [1]), (1, [1, 32]), (2, [2]), (3, [1, 3]), (4, [1, 3, 37]), (5, [1, 3]), (6, [1, 3, 47]), (7, [2]), (8, [2])], spec_FamOk_L A c_103 c_107 c_104 c_163 c_164 A.fuel⟩
theorem spec_FamOk_l0_ok (A : PM.Prims) (c_103 : spec_l1In_T) (c_107 : spec_l3Vals_T) (c_104 : spec_RowsOk_T) (c_163 : spec_l4Regs_T) (c_164 : spec_KidOk_T) (n : Nat) (i5 : Int) (o06 : List Int) (o07 : List Int) (o08 : List (List Int)) (o09 : List (List C)) (o010 : List Int) (K : Go.Exit → PM.S → PM.R) : spec_FamOk_L A c_103 c_107 c_104 c_163 c_164 (n + 1) 0 ⟨[(1, .pbox 0 0), (3, .int .i64 i5)], [(0, .box [.arr (.ints 3 .i64 o06), .arr (.ints 3 .i64 o07), .arr (.vecs 161 2 o08), .arr (.rows 233 o09), .arr (.ints 3 .i64 o010)])]⟩ K = PM.roundF A cx (PM.runD A cx (spec_FamOk_E A c_103 c_107 c_104 c_163 c_164).inl (spec_FamOk_E A c_103 c_107 c_104 c_163 c_164).Γ 3) (spec_FamOk_E A c_103 c_107 c_104 c_163 c_164) (spec_FamOk_L A c_103 c_107 c_104 c_163 c_164 n) 0 Go.Proofs.Try.f73 ⟨[(1, .pbox 0 0), (3, .int .i64 i5)], [(0, .box [.arr (.ints 3 .i64 o06), .arr (.ints 3 .i64 o07), .arr (.vecs 161 2 o08), .arr (.rows 233 o09), .arr (.ints 3 .i64 o010)])]⟩ K := by kernel_rfl
theorem spec_FamOk_ok (A : PM.Prims) (c_103 : spec_l1In_T) (c_107 : spec_l3Vals_T) (c_104 : spec_RowsOk_T) (c_163 : spec_l4Regs_T) (c_164 : spec_KidOk_T) (s_Cells : List Int) (s_Regs : List Int) (s_Writes : List (List Int)) (s_Kids : List (List PM.C)) (s_Acts : List Int) (k : PM.V → PM.R) : PM.pfun A cx [] (spec_FamOk_E A c_103 c_107 c_104 c_163 c_164) Go.Proofs.Try.f73 [.agg [.arr (.ints 3 .i64 s_Cells), .arr (.ints 3 .i64 s_Regs), .arr (.vecs 161 2 s_Writes), .arr (.rows 233 s_Kids), .arr (.ints 3 .i64 s_Acts)]] k = spec_FamOk_f A c_103 c_107 c_104 c_163 c_164 s_Cells s_Regs s_Writes s_Kids s_Acts (fun r0 => k (.bool r0)) := by kernel_rfl

theorem spec_FamOk_fn : PM.FnIs Try.prog 73 Try.f73 := .of Try.func73 (by kernel_rfl) (by kernel_rfl)
theorem spec_FamOk_g : PM.GOk Try.prog cx 73 ⟨[], spec_FamOk_w (spec_FamOk PM.std), none⟩ := by
  refine ⟨spec_FamOk_fn.enter, fun _ ds k r h => ?_, fun hm => absurd rfl hm, fun _ e => (by cases e)⟩
  change spec_FamOk_w (spec_FamOk PM.std) ds k = some r at h
  unfold spec_FamOk_w at h
  split at h
  · exact PM.pfun_ok (E := spec_FamOk_E PM.std (spec_l1In PM.std) (spec_l3Vals PM.std) (spec_RowsOk PM.std) (spec_l4Regs PM.std) (spec_KidOk PM.std)) (L := fun n => spec_FamOk_L PM.std (spec_l1In PM.std) (spec_l3Vals PM.std) (spec_RowsOk PM.std) (spec_l4Regs PM.std) (spec_KidOk PM.std) n) (N := PM.std.fuel) cx_ok (.cons spec_l1In_g (.cons spec_l3Vals_g (.cons spec_RowsOk_g (.cons spec_l4Regs_g (.cons spec_KidOk_g .nil))))) mixed .nil spec_FamOk_fn (by kernel_rfl) ⟨rfl, fun cur σ K => by
      dsimp only [spec_FamOk_L]
      split <;> rfl, fun n cur σ K r h => by
      dsimp only [spec_FamOk_L] at h
      split at h
      · exact (spec_FamOk_l0_ok PM.std (spec_l1In PM.std) (spec_l3Vals PM.std) (spec_RowsOk PM.std) (spec_l4Regs PM.std) (spec_KidOk PM.std) n _ _ _ _ _ _ K).symm.trans h
      · cases h⟩
      ((spec_FamOk_ok PM.std (spec_l1In PM.std) (spec_l3Vals PM.std) (spec_RowsOk PM.std) (spec_l4Regs PM.std) (spec_KidOk PM.std) _ _ _ _ _ k).trans h)
  · cases h

abbrev spec_Overlay_T := (List Int) → (List (List Int)) → ((List Int) → PM.R) → PM.R
noncomputable def spec_Overlay_w (c : spec_Overlay_T) (ds : List PM.V) (k : PM.V → PM.R) : PM.R :=
  match ds with
  | [.arr (.ints 3 .i64 cells), .arr (.vecs 161 2 l)] => c cells l (fun r0 => k (.arr (.ints 3 .i64 r0)))
  | _ => none
noncomputable def spec_Overlay_l0 (A : PM.Prims) (c_107 : spec_l3Vals_T) (c_104 : spec_RowsOk_T) : Nat → (List (List Int)) → (Int) → (List Int) → ((List Int) → PM.R) → PM.R
  | 0, _, _, _, _ => none
  | n + 1, l3, i4, o05, kx0_0 =>
    bif (A.lt i4 (A.vlen l3)) then
      bif (A.inb i4 (A.vlen l3)) then
        bif (A.inb i4 (A.vlen l3)) then
          bif (A.inb (A.vget l3 i4 0) (A.ilen o05)) then
            spec_Overlay_l0 A c_107 c_104 n l3 (A.add .i64 i4 1) (A.iset o05 (A.vget l3 i4 0) (A.vget l3 i4 1)) kx0_0
          else
            none
        else
          none
      else
        none
    else
      kx0_0 o05
noncomputable def spec_Overlay_f (A : PM.Prims) (c_107 : spec_l3Vals_T) (c_104 : spec_RowsOk_T) (cells : List Int) (l : List (List Int)) (k : (List Int) → PM.R) : PM.R :=
  c_107 cells (fun r1 =>
    bif (A.not r1) then
      k []
    else
      c_104 l (fun r2 =>
        bif (A.not r2) then
          k []
        else
          bif (A.room (A.ilen []) (A.ilen cells)) then
            spec_Overlay_l0 A c_107 c_104 A.fuel l 0 (A.iapp [] cells) (fun o067 =>
              k o067)
          else
            none))
noncomputable def spec_Overlay (A : PM.Prims) : spec_Overlay_T := spec_Overlay_f A (spec_l3Vals A) (spec_RowsOk A)
noncomputable def spec_Overlay_L (A : PM.Prims) (c_107 : spec_l3Vals_T) (c_104 : spec_RowsOk_T) (n : Nat) : PM.Lam := fun cur σ K =>
  match cur, σ, K with
  | 0, ⟨[(1, .arr (.vecs 161 2 l3)), (5, .sref 0), (6, .int .i64 i4)], [(0, .arr true (.ints 3 .i64 o05))]⟩, K => spec_Overlay_l0 A c_107 c_104 n l3 i4 o05 (fun o06 => K (.exit 0) ⟨[(5, .sref 0)], [(0, .arr true (.ints 3 .i64 o06))]⟩)
  | _, _, _ => none
noncomputable def spec_Overlay_E (A : PM.Prims) (c_107 : spec_l3Vals_T) (c_104 : spec_RowsOk_T) : PM.Env := ⟨[(107, ⟨[], spec_l3Vals_w c_107, none⟩), (104, ⟨[], spec_RowsOk_w c_104, none⟩)], [], [(0, [1, 5, 6], [4, 5])], [(0, [0, 1]), (1, [0, 1, 14]), (2, [4]), (3, [1, 5]), (4, [1, 5, 6]), (5, [1, 5, 6, 22]), (6, [1, 5, 6]), (7, [1, 5, 6]), (8, [4])], spec_Overlay_L A c_107 c_104 A.fuel⟩
theorem spec_Overlay_l0_ok (A : PM.Prims) (c_107 : spec_l3Vals_T) (c_104 : spec_RowsOk_T) (n : Nat) (l3 : List (List Int)) (i4 : Int) (o05 : List Int) (K : Go.Exit → PM.S → PM.R) : spec_Overlay_L A c_107 c_104 (n + 1) 0 ⟨[(1, .arr (.vecs 161 2 l3)), (5, .sref 0), (6, .int .i64 i4)], [(0, .arr true (.ints 3 .i64 o05))]⟩ K = PM.roundF A cx (PM.runD A cx (spec_Overlay_E A c_107 c_104).inl (spec_Overlay_E A c_107 c_104).Γ 3) (spec_Overlay_E A c_107 c_104) (spec_Overlay_L A c_107 c_104 n) 0 Go.Proofs.Try.f29 ⟨[(1, .arr (.vecs 161 2 l3)), (5, .sref 0), (6, .int .i64 i4)], [(0, .arr true (.ints 3 .i64 o05))]⟩ K := by kernel_rfl
theorem spec_Overlay_ok (A : PM.Prims) (c_107 : spec_l3Vals_T) (c_104 : spec_RowsOk_T) (cells : List Int) (l : List (List Int)) (k : PM.V → PM.R) : PM.pfun A cx [] (spec_Overlay_E A c_107 c_104) Go.Proofs.Try.f29 [.arr (.ints 3 .i64 cells), .arr (.vecs 161 2 l)] k = spec_Overlay_f A c_107 c_104 cells l (fun r0 => k (.arr (.ints 3 .i64 r0))) := by kernel_rfl

theorem spec_Overlay_fn : PM.FnIs Try.prog 29 Try.f29 := .of Try.func29 (by kernel_rfl) (by kernel_rfl)
theorem spec_Overlay_g : PM.GOk Try.prog cx 29 ⟨[], spec_Overlay_w (spec_Overlay PM.std), none⟩ := by
  refine ⟨spec_Overlay_fn.enter, fun _ ds k r h => ?_, fun hm => absurd rfl hm, fun _ e => (by cases e)⟩
  change spec_Overlay_w (spec_Overlay PM.std) ds k = some r at h
  unfold spec_Overlay_w at h
  split at h
  · exact PM.pfun_ok (E := spec_Overlay_E PM.std (spec_l3Vals PM.std) (spec_RowsOk PM.std)) (L := fun n => spec_Overlay_L PM.std (spec_l3Vals PM.std) (spec_RowsOk PM.std) n) (N := PM.std.fuel) cx_ok (.cons spec_l3Vals_g (.cons spec_RowsOk_g .nil)) mixed .nil spec_Overlay_fn (by kernel_rfl) ⟨rfl, fun cur σ K => by
      dsimp only [spec_Overlay_L]
      split <;> rfl, fun n cur σ K r h => by
      dsimp only [spec_Overlay_L] at h
      split at h
      · exact (spec_Overlay_l0_ok PM.std (spec_l3Vals PM.std) (spec_RowsOk PM.std) n _ _ _ K).symm.trans h
      · cases h⟩
      ((spec_Overlay_ok PM.std (spec_l3Vals PM.std) (spec_RowsOk PM.std) _ _ k).trans h)
  · cases h

abbrev spec_l13Ints_T := (List Int) → ((List Int) → PM.R) → PM.R
noncomputable def spec_l13Ints_w (c : spec_l13Ints_T) (ds : List PM.V) (k : PM.V → PM.R) : PM.R :=
  match ds with
  | [.arr (.ints 3 .i64 l)] => c l (fun r0 => k (.arr (.ints 3 .i64 r0)))
  | _ => none
noncomputable def spec_l13Ints_f (A : PM.Prims) (l : List Int) (k : (List Int) → PM.R) : PM.R :=
  bif (A.room (A.ilen []) (A.ilen l)) then
    k (A.iapp [] l)
  else
    none
noncomputable def spec_l13Ints (A : PM.Prims) : spec_l13Ints_T := spec_l13Ints_f A
noncomputable def spec_l13Ints_L (A : PM.Prims) (n : Nat) : PM.Lam := fun cur σ K =>
  match cur, σ, K with
  | _, _, _ => none
noncomputable def spec_l13Ints_E (A : PM.Prims) : PM.Env := ⟨[], [], [], [(0, [0]), (1, [2])], spec_l13Ints_L A A.fuel⟩
theorem spec_l13Ints_ok (A : PM.Prims) (l : List Int) (k : PM.V → PM.R) : PM.pfun A cx [] (spec_l13Ints_E A) Go.Proofs.Try.f168 [.arr (.ints 3 .i64 l)] k = spec_l13Ints_f A l (fun r0 => k (.arr (.ints 3 .i64 r0))) := by kernel_rfl

theorem spec_l13Ints_fn : PM.FnIs Try.prog 168 Try.f168 := .of Try.func168 (by kernel_rfl) (by kernel_rfl)
theorem spec_l13Ints_g : PM.GOk Try.prog cx 168 ⟨[], spec_l13Ints_w (spec_l13Ints PM.std), none⟩ := by
  refine ⟨spec_l13Ints_fn.enter, fun _ ds k r h => ?_, fun hm => absurd rfl hm, fun _ e => (by cases e)⟩
  change spec_l13Ints_w (spec_l13Ints PM.std) ds k = some r at h
  unfold spec_l13Ints_w at h
  split at h
  · exact PM.pfun_ok (E := spec_l13Ints_E PM.std) (L := fun n => spec_l13Ints_L PM.std n) (N := PM.std.fuel) cx_ok .nil mixed .nil spec_l13Ints_fn (by kernel_rfl) ⟨rfl, fun _ _ _ => rfl, fun n cur σ K r h => by cases h⟩
      ((spec_l13Ints_ok PM.std _ k).trans h)
  · cases h

abbrev impl_within_T := (Int) → (Int) → (Int) → ((Bool) → PM.R) → PM.R
noncomputable def impl_within_w (c : impl_within_T) (ds : List PM.V) (k : PM.V → PM.R) : PM.R :=
  match ds with
  | [.int .i64 x, .int .i64 lo, .int .i64 hi] => c x lo hi (fun r0 => k (.bool r0))
  | _ => none
noncomputable def impl_within_f (A : PM.Prims) (x : Int) (lo : Int) (hi : Int) (k : (Bool) → PM.R) : PM.R :=
  bif (A.le lo x) then
    k (A.le x hi)
  else
    k false
noncomputable def impl_within (A : PM.Prims) : impl_within_T := impl_within_f A
noncomputable def impl_within_L (A : PM.Prims) (n : Nat) : PM.Lam := fun cur σ K =>
  match cur, σ, K with
  | _, _, _ => none
noncomputable def impl_within_E (A : PM.Prims) : PM.Env := ⟨[], [], [], [(0, [0, 1, 2]), (1, [6])], impl_within_L A A.fuel⟩
theorem impl_within_ok (A : PM.Prims) (x : Int) (lo : Int) (hi : Int) (k : PM.V → PM.R) : PM.pfun A cx [] (impl_within_E A) Go.Proofs.Try.f134 [.int .i64 x, .int .i64 lo, .int .i64 hi] k = impl_within_f A x lo hi (fun r0 => k (.bool r0)) := by kernel_rfl

theorem impl_within_fn : PM.FnIs Try.prog 134 Try.f134 := .of Try.func134 (by kernel_rfl) (by kernel_rfl)
theorem impl_within_g : PM.GOk Try.prog cx 134 ⟨[], impl_within_w (impl_within PM.std), none⟩ := by
  refine ⟨impl_within_fn.enter, fun _ ds k r h => ?_, fun hm => absurd rfl hm, fun _ e => (by cases e)⟩
  change impl_within_w (impl_within PM.std) ds k = some r at h
  unfold impl_within_w at h
  split at h
  · exact PM.pfun_ok (E := impl_within_E PM.std) (L := fun n => impl_within_L PM.std n) (N := PM.std.fuel) cx_ok .nil mixed .nil impl_within_fn (by kernel_rfl) ⟨rfl, fun _ _ _ => rfl, fun n cur σ K r h => by cases h⟩
      ((impl_within_ok PM.std _ _ _ k).trans h)
  · cases h

abbrev impl_isReg_T := (Int) → ((Bool) → PM.R) → PM.R
noncomputable def impl_isReg_w (c : impl_isReg_T) (ds : List PM.V) (k : PM.V → PM.R) : PM.R :=
  match ds with
  | [.int .i64 r] => c r (fun r0 => k (.bool r0))
  | _ => none
noncomputable def impl_isReg_f (A : PM.Prims) (c_134 : impl_within_T) (r : Int) (k : (Bool) → PM.R) : PM.R :=
  c_134 r 0 3 (fun r1 =>
    k r1)
noncomputable def impl_isReg (A : PM.Prims) : impl_isReg_T := impl_isReg_f A (impl_within A)
noncomputable def impl_isReg_L (A : PM.Prims) (c_134 : impl_within_T) (n : Nat) : PM.Lam := fun cur σ K =>
  match cur, σ, K with
  | _, _, _ => none
noncomputable def impl_isReg_E (A : PM.Prims) (c_134 : impl_within_T) : PM.Env := ⟨[(134, ⟨[], impl_within_w c_134, none⟩)], [], [], [(0, [0]), (1, [2])], impl_isReg_L A c_134 A.fuel⟩
theorem impl_isReg_ok (A : PM.Prims) (c_134 : impl_within_T) (r : Int) (k : PM.V → PM.R) : PM.pfun A cx [] (impl_isReg_E A c_134) Go.Proofs.Try.f317 [.int .i64 r] k = impl_isReg_f A c_134 r (fun r0 => k (.bool r0)) := by kernel_rfl

theorem impl_isReg_fn : PM.FnIs Try.prog 317 Try.f317 := .of Try.func317 (by kernel_rfl) (by kernel_rfl)
theorem impl_isReg_g : PM.GOk Try.prog cx 317 ⟨[], impl_isReg_w (impl_isReg PM.std), none⟩ := by
  refine ⟨impl_isReg_fn.enter, fun _ ds k r h => ?_, fun hm => absurd rfl hm, fun _ e => (by cases e)⟩
  change impl_isReg_w (impl_isReg PM.std) ds k = some r at h
  unfold impl_isReg_w at h
  split at h
  · exact PM.pfun_ok (E := impl_isReg_E PM.std (impl_within PM.std)) (L := fun n => impl_isReg_L PM.std (impl_within PM.std) n) (N := PM.std.fuel) cx_ok (.cons impl_within_g .nil) mixed .nil impl_isReg_fn (by kernel_rfl) ⟨rfl, fun _ _ _ => rfl, fun n cur σ K r h => by cases h⟩
      ((impl_isReg_ok PM.std (impl_within PM.std) _ k).trans h)
  · cases h

abbrev impl_isValue_T := (Int) → ((Bool) → PM.R) → PM.R
noncomputable def impl_isValue_w (c : impl_isValue_T) (ds : List PM.V) (k : PM.V → PM.R) : PM.R :=
  match ds with
  | [.int .i64 v] => c v (fun r0 => k (.bool r0))
  | _ => none
noncomputable def impl_isValue_f (A : PM.Prims) (c_134 : impl_within_T) (v : Int) (k : (Bool) → PM.R) : PM.R :=
  c_134 v 0 65535 (fun r1 =>
    k r1)
noncomputable def impl_isValue (A : PM.Prims) : impl_isValue_T := impl_isValue_f A (impl_within A)
noncomputable def impl_isValue_L (A : PM.Prims) (c_134 : impl_within_T) (n : Nat) : PM.Lam := fun cur σ K =>
  match cur, σ, K with
  | _, _, _ => none
noncomputable def impl_isValue_E (A : PM.Prims) (c_134 : impl_within_T) : PM.Env := ⟨[(134, ⟨[], impl_within_w c_134, none⟩)], [], [], [(0, [0]), (1, [2])], impl_isValue_L A c_134 A.fuel⟩
theorem impl_isValue_ok (A : PM.Prims) (c_134 : impl_within_T) (v : Int) (k : PM.V → PM.R) : PM.pfun A cx [] (impl_isValue_E A c_134) Go.Proofs.Try.f193 [.int .i64 v] k = impl_isValue_f A c_134 v (fun r0 => k (.bool r0)) := by kernel_rfl

theorem impl_isValue_fn : PM.FnIs Try.prog 193 Try.f193 := .of Try.func193 (by kernel_rfl) (by kernel_rfl)
theorem impl_isValue_g : PM.GOk Try.prog cx 193 ⟨[], impl_isValue_w (impl_isValue PM.std), none⟩ := by
  refine ⟨impl_isValue_fn.enter, fun _ ds k r h => ?_, fun hm => absurd rfl hm, fun _ e => (by cases e)⟩
  change impl_isValue_w (impl_isValue PM.std) ds k = some r at h
  unfold impl_isValue_w at h
  split at h
  · exact PM.pfun_ok (E := impl_isValue_E PM.std (impl_within PM.std)) (L := fun n => impl_isValue_L PM.std (impl_within PM.std) n) (N := PM.std.fuel) cx_ok (.cons impl_within_g .nil) mixed .nil impl_isValue_fn (by kernel_rfl) ⟨rfl, fun _ _ _ => rfl, fun n cur σ K r h => by cases h⟩
      ((impl_isValue_ok PM.std (impl_within PM.std) _ k).trans h)
  · cases h

abbrev impl_isCell_T := (Int) → ((Bool) → PM.R) → PM.R
noncomputable def impl_isCell_w (c : impl_isCell_T) (ds : List PM.V) (k : PM.V → PM.R) : PM.R :=
  match ds with
  | [.int .i64 i] => c i (fun r0 => k (.bool r0))
  | _ => none
noncomputable def impl_isCell_f (A : PM.Prims) (c_134 : impl_within_T) (i : Int) (k : (Bool) → PM.R) : PM.R :=
  c_134 i 0 7 (fun r1 =>
    k r1)
noncomputable def impl_isCell (A : PM.Prims) : impl_isCell_T := impl_isCell_f A (impl_within A)
noncomputable def impl_isCell_L (A : PM.Prims) (c_134 : impl_within_T) (n : Nat) : PM.Lam := fun cur σ K =>
  match cur, σ, K with
  | _, _, _ => none
noncomputable def impl_isCell_E (A : PM.Prims) (c_134 : impl_within_T) : PM.Env := ⟨[(134, ⟨[], impl_within_w c_134, none⟩)], [], [], [(0, [0]), (1, [2])], impl_isCell_L A c_134 A.fuel⟩
theorem impl_isCell_ok (A : PM.Prims) (c_134 : impl_within_T) (i : Int) (k : PM.V → PM.R) : PM.pfun A cx [] (impl_isCell_E A c_134) Go.Proofs.Try.f144 [.int .i64 i] k = impl_isCell_f A c_134 i (fun r0 => k (.bool r0)) := by kernel_rfl

theorem impl_isCell_fn : PM.FnIs Try.prog 144 Try.f144 := .of Try.func144 (by kernel_rfl) (by kernel_rfl)
theorem impl_isCell_g : PM.GOk Try.prog cx 144 ⟨[], impl_isCell_w (impl_isCell PM.std), none⟩ := by
  refine ⟨impl_isCell_fn.enter, fun _ ds k r h => ?_, fun hm => absurd rfl hm, fun _ e => (by cases e)⟩
  change impl_isCell_w (impl_isCell PM.std) ds k = some r at h
  unfold impl_isCell_w at h
  split at h
  · exact PM.pfun_ok (E := impl_isCell_E PM.std (impl_within PM.std)) (L := fun n => impl_isCell_L PM.std (impl_within PM.std) n) (N := PM.std.fuel) cx_ok (.cons impl_within_g .nil) mixed .nil impl_isCell_fn (by kernel_rfl) ⟨rfl, fun _ _ _ => rfl, fun n cur σ K r h => by cases h⟩
      ((impl_isCell_ok PM.std (impl_within PM.std) _ k).trans h)
  · cases h

abbrev impl_isKey_T := (Int) → ((Bool) → PM.R) → PM.R
noncomputable def impl_isKey_w (c : impl_isKey_T) (ds : List PM.V) (k : PM.V → PM.R) : PM.R :=
  match ds with
  | [.int .i64 k_] => c k_ (fun r0 => k (.bool r0))
  | _ => none
noncomputable def impl_isKey_f (A : PM.Prims) (c_134 : impl_within_T) (k_ : Int) (k : (Bool) → PM.R) : PM.R :=
  c_134 k_ 0 7 (fun r1 =>
    k r1)
noncomputable def impl_isKey (A : PM.Prims) : impl_isKey_T := impl_isKey_f A (impl_within A)
noncomputable def impl_isKey_L (A : PM.Prims) (c_134 : impl_within_T) (n : Nat) : PM.Lam := fun cur σ K =>
  match cur, σ, K with
  | _, _, _ => none
noncomputable def impl_isKey_E (A : PM.Prims) (c_134 : impl_within_T) : PM.Env := ⟨[(134, ⟨[], impl_within_w c_134, none⟩)], [], [], [(0, [0]), (1, [2])], impl_isKey_L A c_134 A.fuel⟩
theorem impl_isKey_ok (A : PM.Prims) (c_134 : impl_within_T) (k_ : Int) (k : PM.V → PM.R) : PM.pfun A cx [] (impl_isKey_E A c_134) Go.Proofs.Try.f318 [.int .i64 k_] k = impl_isKey_f A c_134 k_ (fun r0 => k (.bool r0)) := by kernel_rfl

theorem impl_isKey_fn : PM.FnIs Try.prog 318 Try.f318 := .of Try.func318 (by kernel_rfl) (by kernel_rfl)
theorem impl_isKey_g : PM.GOk Try.prog cx 318 ⟨[], impl_isKey_w (impl_isKey PM.std), none⟩ := by
  refine ⟨impl_isKey_fn.enter, fun _ ds k r h => ?_, fun hm => absurd rfl hm, fun _ e => (by cases e)⟩
  change impl_isKey_w (impl_isKey PM.std) ds k = some r at h
  unfold impl_isKey_w at h
  split at h
  · exact PM.pfun_ok (E := impl_isKey_E PM.std (impl_within PM.std)) (L := fun n => impl_isKey_L PM.std (impl_within PM.std) n) (N := PM.std.fuel) cx_ok (.cons impl_within_g .nil) mixed .nil impl_isKey_fn (by kernel_rfl) ⟨rfl, fun _ _ _ => rfl, fun n cur σ K r h => by cases h⟩
      ((impl_isKey_ok PM.std (impl_within PM.std) _ k).trans h)
  · cases h

abbrev impl_OpOk_T := (Int) → (Int) → (Int) → (Int) → ((Bool) → PM.R) → PM.R
noncomputable def impl_OpOk_w (c : impl_OpOk_T) (ds : List PM.V) (k : PM.V → PM.R) : PM.R :=
  match ds with
  | [.agg [.int .i64 ___Kind, .int .i64 ___A, .int .i64 ___B, .int .i64 ___C]] => c ___Kind ___A ___B ___C (fun r0 => k (.bool r0))
  | _ => none
noncomputable def impl_OpOk_f (A : PM.Prims) (c_134 : impl_within_T) (c_144 : impl_isCell_T) (c_193 : impl_isValue_T) (c_317 : impl_isReg_T) (c_318 : impl_isKey_T) (___Kind : Int) (___A : Int) (___B : Int) (___C : Int) (k : (Bool) → PM.R) : PM.R :=
  bif (A.eq ___Kind 1) then
    c_317 ___A (fun r1 =>
      bif r1 then
        c_193 ___B (fun r2 =>
          bif r2 then
            k (A.eq ___C 0)
          else
            k false)
      else
        k false)
  else
    bif (A.eq ___Kind 2) then
      c_317 ___A (fun r3 =>
        bif r3 then
          c_317 ___B (fun r4 =>
            bif r4 then
              c_317 ___C (fun r5 =>
                k r5)
            else
              k false)
        else
          k false)
    else
      bif (A.eq ___Kind 3) then
        c_317 ___A (fun r6 =>
          bif r6 then
            c_317 ___B (fun r7 =>
              bif r7 then
                c_317 ___C (fun r8 =>
                  k r8)
              else
                k false)
          else
            k false)
      else
        bif (A.eq ___Kind 4) then
          c_317 ___A (fun r9 =>
            bif r9 then
              c_317 ___B (fun r10 =>
                bif r10 then
                  c_317 ___C (fun r11 =>
                    k r11)
                else
                  k false)
            else
              k false)
        else
          bif (A.eq ___Kind 5) then
            c_317 ___A (fun r12 =>
              bif r12 then
                c_144 ___B (fun r13 =>
                  bif r13 then
                    k (A.eq ___C 0)
                  else
                    k false)
              else
                k false)
          else
            bif (A.eq ___Kind 6) then
              c_144 ___A (fun r14 =>
                bif r14 then
                  c_317 ___B (fun r15 =>
                    bif r15 then
                      k (A.eq ___C 0)
                    else
                      k false)
                else
                  k false)
            else
              bif (A.eq ___Kind 7) then
                c_317 ___A (fun r16 =>
                  bif r16 then
                    c_134 ___B 1 20 (fun r17 =>
                      bif r17 then
                        k (A.eq ___C 0)
                      else
                        k false)
                  else
                    k false)
              else
                bif (A.eq ___Kind 8) then
                  c_317 ___A (fun r18 =>
                    bif r18 then
                      bif (A.eq ___B 0) then
                        k (A.eq ___C 0)
                      else
                        k false
                    else
                      k false)
                else
                  bif (A.eq ___Kind 15) then
                    c_317 ___A (fun r19 =>
                      bif r19 then
                        bif (A.eq ___B 0) then
                          k (A.eq ___C 0)
                        else
                          k false
                      else
                        k false)
                  else
                    bif (A.eq ___Kind 16) then
                      c_317 ___A (fun r20 =>
                        bif r20 then
                          bif (A.eq ___B 0) then
                            k (A.eq ___C 0)
                          else
                            k false
                        else
                          k false)
                    else
                      bif (A.eq ___Kind 9) then
                        bif (A.eq ___A 0) then
                          bif (A.eq ___B 0) then
                            k (A.eq ___C 0)
                          else
                            k false
                        else
                          k false
                      else
                        bif (A.eq ___Kind 10) then
                          bif (A.eq ___A 0) then
                            bif (A.eq ___B 0) then
                              k (A.eq ___C 0)
                            else
                              k false
                          else
                            k false
                        else
                          bif (A.eq ___Kind 11) then
                            bif (A.eq ___A 0) then
                              bif (A.eq ___B 0) then
                                k (A.eq ___C 0)
                              else
                                k false
                            else
                              k false
                          else
                            bif (A.eq ___Kind 12) then
                              c_318 ___A (fun r21 =>
                                bif r21 then
                                  c_317 ___B (fun r22 =>
                                    bif r22 then
                                      c_317 ___C (fun r23 =>
                                        k r23)
                                    else
                                      k false)
                                else
                                  k false)
                            else
                              bif (A.eq ___Kind 13) then
                                c_317 ___A (fun r24 =>
                                  bif r24 then
                                    c_318 ___B (fun r25 =>
                                      bif r25 then
                                        k (A.eq ___C 0)
                                      else
                                        k false)
                                  else
                                    k false)
                              else
                                bif (A.eq ___Kind 14) then
                                  c_318 ___A (fun r26 =>
                                    bif r26 then
                                      c_317 ___B (fun r27 =>
                                        bif r27 then
                                          k (A.eq ___C 0)
                                        else
                                          k false)
                                    else
                                      k false)
                                else
                                  k false
noncomputable def impl_OpOk (A : PM.Prims) : impl_OpOk_T := impl_OpOk_f A (impl_within A) (impl_isCell A) (impl_isValue A) (impl_isReg A) (impl_isKey A)
noncomputable def impl_OpOk_L (A : PM.Prims) (c_134 : impl_within_T) (c_144 : impl_isCell_T) (c_193 : impl_isValue_T) (c_317 : impl_isReg_T) (c_318 : impl_isKey_T) (n : Nat) : PM.Lam := fun cur σ K =>
  match cur, σ, K with
  | _, _, _ => none
noncomputable def impl_OpOk_E (A : PM.Prims) (c_134 : impl_within_T) (c_144 : impl_isCell_T) (c_193 : impl_isValue_T) (c_317 : impl_isReg_T) (c_318 : impl_isKey_T) : PM.Env := ⟨[(134, ⟨[], impl_within_w c_134, none⟩), (144, ⟨[], impl_isCell_w c_144, none⟩), (193, ⟨[], impl_isValue_w c_193, none⟩), (317, ⟨[], impl_isReg_w c_317, none⟩), (318, ⟨[], impl_isKey_w c_318, none⟩)], [], [], [(0, [1]), (1, [1, 4]), (2, [1, 4, 5]), (3, [2]), (4, [1, 4, 20]), (5, [1, 4, 20]), (6, [1, 4, 20]), (7, [2]), (8, [1, 4, 37]), (9, [2]), (10, [1, 4, 52]), (11, [2]), (12, [1, 4, 67]), (13, [2]), (14, [1, 4, 82]), (15, [1, 4, 82]), (16, [1, 4, 82]), (17, [2]), (18, [1, 4, 99]), (19, [1, 4, 99]), (20, [1, 4, 99]), (21, [2]), (22, [1, 4, 116]), (23, [2]), (24, [1, 4, 131]), (25, [2]), (26, [1, 146]), (27, [2]), (28, [2])], impl_OpOk_L A c_134 c_144 c_193 c_317 c_318 A.fuel⟩
theorem impl_OpOk_ok (A : PM.Prims) (c_134 : impl_within_T) (c_144 : impl_isCell_T) (c_193 : impl_isValue_T) (c_317 : impl_isReg_T) (c_318 : impl_isKey_T) (___Kind : Int) (___A : Int) (___B : Int) (___C : Int) (k : PM.V → PM.R) : PM.pfun A cx [] (impl_OpOk_E A c_134 c_144 c_193 c_317 c_318) Go.Proofs.Try.f283 [.agg [.int .i64 ___Kind, .int .i64 ___A, .int .i64 ___B, .int .i64 ___C]] k = impl_OpOk_f A c_134 c_144 c_193 c_317 c_318 ___Kind ___A ___B ___C (fun r0 => k (.bool r0)) := by kernel_rfl

theorem impl_OpOk_fn : PM.FnIs Try.prog 283 Try.f283 := .of Try.func283 (by kernel_rfl) (by kernel_rfl)
theorem impl_OpOk_g : PM.GOk Try.prog cx 283 ⟨[], impl_OpOk_w (impl_OpOk PM.std), none⟩ := by
  refine ⟨impl_OpOk_fn.enter, fun _ ds k r h => ?_, fun hm => absurd rfl hm, fun _ e => (by cases e)⟩
  change impl_OpOk_w (impl_OpOk PM.std) ds k = some r at h
  unfold impl_OpOk_w at h
  split at h
  · exact PM.pfun_ok (E := impl_OpOk_E PM.std (impl_within PM.std) (impl_isCell PM.std) (impl_isValue PM.std) (impl_isReg PM.std) (impl_isKey PM.std)) (L := fun n => impl_OpOk_L PM.std (impl_within PM.std) (impl_isCell PM.std) (impl_isValue PM.std) (impl_isReg PM.std) (impl_isKey PM.std) n) (N := PM.std.fuel) cx_ok (.cons impl_within_g (.cons impl_isCell_g (.cons impl_isValue_g (.cons impl_isReg_g (.cons impl_isKey_g .nil))))) mixed .nil impl_OpOk_fn (by kernel_rfl) ⟨rfl, fun _ _ _ => rfl, fun n cur σ K r h => by cases h⟩
      ((impl_OpOk_ok PM.std (impl_within PM.std) (impl_isCell PM.std) (impl_isValue PM.std) (impl_isReg PM.std) (impl_isKey PM.std) _ _ _ _ k).trans h)
  · cases h

abbrev impl_Touches_T := (Int) → (Int) → (Int) → (Int) → ((Int) → PM.R) → PM.R
noncomputable def impl_Touches_w (c : impl_Touches_T) (ds : List PM.V) (k : PM.V → PM.R) : PM.R :=
  match ds with
  | [.agg [.int .i64 o_Kind, .int .i64 o_A, .int .i64 o_B, .int .i64 o_C]] => c o_Kind o_A o_B o_C (fun r0 => k (.int .i64 r0))
  | _ => none
noncomputable def impl_Touches_f (A : PM.Prims) (c_283 : impl_OpOk_T) (o_Kind : Int) (o_A : Int) (o_B : Int) (o_C : Int) (k : (Int) → PM.R) : PM.R :=
  c_283 o_Kind o_A o_B o_C (fun r1 =>
    bif (A.not r1) then
      k 0
    else
      bif (A.eq o_Kind 5) then
        k 1
      else
        bif (A.eq o_Kind 6) then
          k 1
        else
          bif (A.eq o_Kind 12) then
            k 2
          else
            bif (A.eq o_Kind 13) then
              k 2
            else
              bif (A.eq o_Kind 14) then
                k 2
              else
                bif (A.eq o_Kind 15) then
                  k 2
                else
                  bif (A.eq o_Kind 16) then
                    k 2
                  else
                    k 0)
noncomputable def impl_Touches (A : PM.Prims) : impl_Touches_T := impl_Touches_f A (impl_OpOk A)
noncomputable def impl_Touches_L (A : PM.Prims) (c_283 : impl_OpOk_T) (n : Nat) : PM.Lam := fun cur σ K =>
  match cur, σ, K with
  | _, _, _ => none
noncomputable def impl_Touches_E (A : PM.Prims) (c_283 : impl_OpOk_T) : PM.Env := ⟨[(283, ⟨[], impl_OpOk_w c_283, none⟩)], [], [], [(0, [1]), (1, [1, 5]), (2, [2]), (3, [7]), (4, [7, 8]), (5, [7, 8]), (6, [2]), (7, [7, 11]), (8, [7, 11]), (9, [7, 11]), (10, [7, 11]), (11, [11]), (12, [2]), (13, [2])], impl_Touches_L A c_283 A.fuel⟩
theorem impl_Touches_ok (A : PM.Prims) (c_283 : impl_OpOk_T) (o_Kind : Int) (o_A : Int) (o_B : Int) (o_C : Int) (k : PM.V → PM.R) : PM.pfun A cx [] (impl_Touches_E A c_283) Go.Proofs.Try.f227 [.agg [.int .i64 o_Kind, .int .i64 o_A, .int .i64 o_B, .int .i64 o_C]] k = impl_Touches_f A c_283 o_Kind o_A o_B o_C (fun r0 => k (.int .i64 r0)) := by kernel_rfl

theorem impl_Touches_fn : PM.FnIs Try.prog 227 Try.f227 := .of Try.func227 (by kernel_rfl) (by kernel_rfl)
theorem impl_Touches_g : PM.GOk Try.prog cx 227 ⟨[], impl_Touches_w (impl_Touches PM.std), none⟩ := by
  refine ⟨impl_Touches_fn.enter, fun _ ds k r h => ?_, fun hm => absurd rfl hm, fun _ e => (by cases e)⟩
  change impl_Touches_w (impl_Touches PM.std) ds k = some r at h
  unfold impl_Touches_w at h
  split at h
  · exact PM.pfun_ok (E := impl_Touches_E PM.std (impl_OpOk PM.std)) (L := fun n => impl_Touches_L PM.std (impl_OpOk PM.std) n) (N := PM.std.fuel) cx_ok (.cons impl_OpOk_g .nil) mixed .nil impl_Touches_fn (by kernel_rfl) ⟨rfl, fun _ _ _ => rfl, fun n cur σ K r h => by cases h⟩
      ((impl_Touches_ok PM.std (impl_OpOk PM.std) _ _ _ _ k).trans h)
  · cases h

abbrev impl_opens_T := (Int) → (Int) → (Int) → (Int) → ((Int) → PM.R) → PM.R
noncomputable def impl_opens_w (c : impl_opens_T) (ds : List PM.V) (k : PM.V → PM.R) : PM.R :=
  match ds with
  | [.agg [.int .i64 o_Kind, .int .i64 o_A, .int .i64 o_B, .int .i64 o_C]] => c o_Kind o_A o_B o_C (fun r0 => k (.int .i64 r0))
  | _ => none
noncomputable def impl_opens_f (A : PM.Prims) (o_Kind : Int) (o_A : Int) (o_B : Int) (o_C : Int) (k : (Int) → PM.R) : PM.R :=
  bif (A.eq o_Kind 8) then
    k 1
  else
    bif (A.eq o_Kind 9) then
      k (-1)
    else
      k 0
noncomputable def impl_opens (A : PM.Prims) : impl_opens_T := impl_opens_f A
noncomputable def impl_opens_L (A : PM.Prims) (n : Nat) : PM.Lam := fun cur σ K =>
  match cur, σ, K with
  | _, _, _ => none
noncomputable def impl_opens_E (A : PM.Prims) : PM.Env := ⟨[], [], [], [(0, [1]), (1, [4]), (2, [4, 5]), (3, [2]), (4, [7]), (5, [2]), (6, [2])], impl_opens_L A A.fuel⟩
theorem impl_opens_ok (A : PM.Prims) (o_Kind : Int) (o_A : Int) (o_B : Int) (o_C : Int) (k : PM.V → PM.R) : PM.pfun A cx [] (impl_opens_E A) Go.Proofs.Try.f319 [.agg [.int .i64 o_Kind, .int .i64 o_A, .int .i64 o_B, .int .i64 o_C]] k = impl_opens_f A o_Kind o_A o_B o_C (fun r0 => k (.int .i64 r0)) := by kernel_rfl

theorem impl_opens_fn : PM.FnIs Try.prog 319 Try.f319 := .of Try.func319 (by kernel_rfl) (by kernel_rfl)
theorem impl_opens_g : PM.GOk Try.prog cx 319 ⟨[], impl_opens_w (impl_opens PM.std), none⟩ := by
  refine ⟨impl_opens_fn.enter, fun _ ds k r h => ?_, fun hm => absurd rfl hm, fun _ e => (by cases e)⟩
  change impl_opens_w (impl_opens PM.std) ds k = some r at h
  unfold impl_opens_w at h
  split at h
  · exact PM.pfun_ok (E := impl_opens_E PM.std) (L := fun n => impl_opens_L PM.std n) (N := PM.std.fuel) cx_ok .nil mixed .nil impl_opens_fn (by kernel_rfl) ⟨rfl, fun _ _ _ => rfl, fun n cur σ K r h => by cases h⟩
      ((impl_opens_ok PM.std _ _ _ _ k).trans h)
  · cases h

abbrev impl_isBalanced_T := (List (List Int)) → ((Bool) → PM.R) → PM.R
noncomputable def impl_isBalanced_w (c : impl_isBalanced_T) (ds : List PM.V) (k : PM.V → PM.R) : PM.R :=
  match ds with
  | [.arr (.vecs 312 4 code)] => c code (fun r0 => k (.bool r0))
  | _ => none
noncomputable def impl_isBalanced_l0 (A : PM.Prims) (c_319 : impl_opens_T) : Nat → (Int) → (List (List Int)) → (Int) → (Int) → ((Bool) → PM.R) → ((Int) → PM.R) → PM.R
  | 0, _, _, _, _, _, _ => none
  | n + 1, n1, t62, t73, t84, kret_0, kx0_0 =>
    bif (A.lt t84 t73) then
      bif (A.inb t84 (A.vlen t62)) then
        c_319 (A.vget t62 t84 0) (A.vget t62 t84 1) (A.vget t62 t84 2) (A.vget t62 t84 3) (fun r5 =>
          bif (A.lt (A.add .i64 n1 r5) 0) then
            kret_0 false
          else
            impl_isBalanced_l0 A c_319 n (A.add .i64 n1 r5) t62 t73 (A.add .i64 t84 1) kret_0 kx0_0)
      else
        none
    else
      kx0_0 n1
noncomputable def impl_isBalanced_f (A : PM.Prims) (c_319 : impl_opens_T) (code : List (List Int)) (k : (Bool) → PM.R) : PM.R :=
  impl_isBalanced_l0 A c_319 A.fuel 0 code (A.vlen code) 0 (fun t268 =>
    k t268) (fun n79 =>
    k (A.eq n79 0))
noncomputable def impl_isBalanced (A : PM.Prims) : impl_isBalanced_T := impl_isBalanced_f A (impl_opens A)
noncomputable def impl_isBalanced_L (A : PM.Prims) (c_319 : impl_opens_T) (n : Nat) : PM.Lam := fun cur σ K =>
  match cur, σ, K with
  | 0, ⟨[(3, .int .i64 n1), (6, .arr (.vecs 312 4 t62)), (7, .int .i64 t73), (8, .int .i64 t84)], []⟩, K => impl_isBalanced_l0 A c_319 n n1 t62 t73 t84 (fun t26 => K .ret ⟨[(2, .bool t26)], []⟩) (fun n7 => K (.exit 0) ⟨[(3, .int .i64 n7)], []⟩)
  | _, _, _ => none
noncomputable def impl_isBalanced_E (A : PM.Prims) (c_319 : impl_opens_T) : PM.Env := ⟨[(319, ⟨[], impl_opens_w c_319, none⟩)], [], [(0, [3, 6, 7, 8], [2, 3])], [(0, [0]), (1, [0, 3]), (2, [3, 6, 7, 8]), (3, [3, 6, 7, 8, 9]), (4, [3, 5, 6, 7, 8]), (5, [3, 6, 7, 8]), (6, [3, 6, 7, 8, 17]), (7, [2]), (8, [3, 6, 7, 8]), (9, [2])], impl_isBalanced_L A c_319 A.fuel⟩
theorem impl_isBalanced_l0_ok (A : PM.Prims) (c_319 : impl_opens_T) (n : Nat) (n1 : Int) (t62 : List (List Int)) (t73 : Int) (t84 : Int) (K : Go.Exit → PM.S → PM.R) : impl_isBalanced_L A c_319 (n + 1) 0 ⟨[(3, .int .i64 n1), (6, .arr (.vecs 312 4 t62)), (7, .int .i64 t73), (8, .int .i64 t84)], []⟩ K = PM.roundF A cx (PM.runD A cx (impl_isBalanced_E A c_319).inl (impl_isBalanced_E A c_319).Γ 3) (impl_isBalanced_E A c_319) (impl_isBalanced_L A c_319 n) 0 Go.Proofs.Try.f284 ⟨[(3, .int .i64 n1), (6, .arr (.vecs 312 4 t62)), (7, .int .i64 t73), (8, .int .i64 t84)], []⟩ K := by kernel_rfl
theorem impl_isBalanced_ok (A : PM.Prims) (c_319 : impl_opens_T) (code : List (List Int)) (k : PM.V → PM.R) : PM.pfun A cx [] (impl_isBalanced_E A c_319) Go.Proofs.Try.f284 [.arr (.vecs 312 4 code)] k = impl_isBalanced_f A c_319 code (fun r0 => k (.bool r0)) := by kernel_rfl

theorem impl_isBalanced_fn : PM.FnIs Try.prog 284 Try.f284 := .of Try.func284 (by kernel_rfl) (by kernel_rfl)
theorem impl_isBalanced_g : PM.GOk Try.prog cx 284 ⟨[], impl_isBalanced_w (impl_isBalanced PM.std), none⟩ := by
  refine ⟨impl_isBalanced_fn.enter, fun _ ds k r h => ?_, fun hm => absurd rfl hm, fun _ e => (by cases e)⟩
  change impl_isBalanced_w (impl_isBalanced PM.std) ds k = some r at h
  unfold impl_isBalanced_w at h
  split at h
  · exact PM.pfun_ok (E := impl_isBalanced_E PM.std (impl_opens PM.std)) (L := fun n => impl_isBalanced_L PM.std (impl_opens PM.std) n) (N := PM.std.fuel) cx_ok (.cons impl_opens_g .nil) mixed .nil impl_isBalanced_fn (by kernel_rfl) ⟨rfl, fun cur σ K => by
      dsimp only [impl_isBalanced_L]
      split <;> rfl, fun n cur σ K r h => by
      dsimp only [impl_isBalanced_L] at h
      split at h
      · exact (impl_isBalanced_l0_ok PM.std (impl_opens PM.std) n _ _ _ _ K).symm.trans h
      · cases h⟩
      ((impl_isBalanced_ok PM.std (impl_opens PM.std) _ k).trans h)
  · cases h

abbrev impl_DepthAt_T := (List (List Int)) → (Int) → ((Int) → PM.R) → PM.R
noncomputable def impl_DepthAt_w (c : impl_DepthAt_T) (ds : List PM.V) (k : PM.V → PM.R) : PM.R :=
  match ds with
  | [.arr (.vecs 312 4 code), .int .i64 i] => c code i (fun r0 => k (.int .i64 r0))
  | _ => none
noncomputable def impl_DepthAt_l0 (A : PM.Prims) (c_319 : impl_opens_T) : Nat → (Int) → (Int) → (List (List Int)) → (Int) → (Int) → ((Int) → PM.R) → PM.R
  | 0, _, _, _, _, _, _ => none
  | n + 1, i1, n2, t83, t94, t105, kx0_0 =>
    bif (A.lt t105 t94) then
      bif (A.inb t105 (A.vlen t83)) then
        bif (A.lt t105 i1) then
          c_319 (A.vget t83 t105 0) (A.vget t83 t105 1) (A.vget t83 t105 2) (A.vget t83 t105 3) (fun r6 =>
            impl_DepthAt_l0 A c_319 n i1 (A.add .i64 n2 r6) t83 t94 (A.add .i64 t105 1) kx0_0)
        else
          impl_DepthAt_l0 A c_319 n i1 n2 t83 t94 (A.add .i64 t105 1) kx0_0
      else
        none
    else
      kx0_0 n2
noncomputable def impl_DepthAt_f (A : PM.Prims) (c_319 : impl_opens_T) (code : List (List Int)) (i : Int) (k : (Int) → PM.R) : PM.R :=
  impl_DepthAt_l0 A c_319 A.fuel i 0 code (A.vlen code) 0 (fun n78 =>
    k n78)
noncomputable def impl_DepthAt (A : PM.Prims) : impl_DepthAt_T := impl_DepthAt_f A (impl_opens A)
noncomputable def impl_DepthAt_L (A : PM.Prims) (c_319 : impl_opens_T) (n : Nat) : PM.Lam := fun cur σ K =>
  match cur, σ, K with
  | 0, ⟨[(1, .int .i64 i1), (5, .int .i64 n2), (8, .arr (.vecs 312 4 t83)), (9, .int .i64 t94), (10, .int .i64 t105)], []⟩, K => impl_DepthAt_l0 A c_319 n i1 n2 t83 t94 t105 (fun n7 => K (.exit 0) ⟨[(5, .int .i64 n7)], []⟩)
  | _, _, _ => none
noncomputable def impl_DepthAt_E (A : PM.Prims) (c_319 : impl_opens_T) : PM.Env := ⟨[(319, ⟨[], impl_opens_w c_319, none⟩)], [], [(0, [1, 5, 8, 9, 10], [4, 5])], [(0, [0, 1]), (1, [0, 1, 5]), (2, [1, 5, 8, 9, 10]), (3, [1, 5, 8, 9, 10, 11]), (4, [1, 5, 6, 7, 8, 9, 10]), (5, [1, 5, 7, 8, 9, 10, 17]), (6, [1, 5, 8, 9, 10]), (7, [1, 5, 8, 9, 10]), (8, [4])], impl_DepthAt_L A c_319 A.fuel⟩
theorem impl_DepthAt_l0_ok (A : PM.Prims) (c_319 : impl_opens_T) (n : Nat) (i1 : Int) (n2 : Int) (t83 : List (List Int)) (t94 : Int) (t105 : Int) (K : Go.Exit → PM.S → PM.R) : impl_DepthAt_L A c_319 (n + 1) 0 ⟨[(1, .int .i64 i1), (5, .int .i64 n2), (8, .arr (.vecs 312 4 t83)), (9, .int .i64 t94), (10, .int .i64 t105)], []⟩ K = PM.roundF A cx (PM.runD A cx (impl_DepthAt_E A c_319).inl (impl_DepthAt_E A c_319).Γ 3) (impl_DepthAt_E A c_319) (impl_DepthAt_L A c_319 n) 0 Go.Proofs.Try.f285 ⟨[(1, .int .i64 i1), (5, .int .i64 n2), (8, .arr (.vecs 312 4 t83)), (9, .int .i64 t94), (10, .int .i64 t105)], []⟩ K := by kernel_rfl
theorem impl_DepthAt_ok (A : PM.Prims) (c_319 : impl_opens_T) (code : List (List Int)) (i : Int) (k : PM.V → PM.R) : PM.pfun A cx [] (impl_DepthAt_E A c_319) Go.Proofs.Try.f285 [.arr (.vecs 312 4 code), .int .i64 i] k = impl_DepthAt_f A c_319 code i (fun r0 => k (.int .i64 r0)) := by kernel_rfl

theorem impl_DepthAt_fn : PM.FnIs Try.prog 285 Try.f285 := .of Try.func285 (by kernel_rfl) (by kernel_rfl)
theorem impl_DepthAt_g : PM.GOk Try.prog cx 285 ⟨[], impl_DepthAt_w (impl_DepthAt PM.std), none⟩ := by
  refine ⟨impl_DepthAt_fn.enter, fun _ ds k r h => ?_, fun hm => absurd rfl hm, fun _ e => (by cases e)⟩
  change impl_DepthAt_w (impl_DepthAt PM.std) ds k = some r at h
  unfold impl_DepthAt_w at h
  split at h
  · exact PM.pfun_ok (E := impl_DepthAt_E PM.std (impl_opens PM.std)) (L := fun n => impl_DepthAt_L PM.std (impl_opens PM.std) n) (N := PM.std.fuel) cx_ok (.cons impl_opens_g .nil) mixed .nil impl_DepthAt_fn (by kernel_rfl) ⟨rfl, fun cur σ K => by
      dsimp only [impl_DepthAt_L]
      split <;> rfl, fun n cur σ K r h => by
      dsimp only [impl_DepthAt_L] at h
      split at h
      · exact (impl_DepthAt_l0_ok PM.std (impl_opens PM.std) n _ _ _ _ _ K).symm.trans h
      · cases h⟩
      ((impl_DepthAt_ok PM.std (impl_opens PM.std) _ _ k).trans h)
  · cases h

abbrev impl_CodeOk_T := (List (List Int)) → ((Bool) → PM.R) → PM.R
noncomputable def impl_CodeOk_w (c : impl_CodeOk_T) (ds : List PM.V) (k : PM.V → PM.R) : PM.R :=
  match ds with
  | [.arr (.vecs 312 4 code)] => c code (fun r0 => k (.bool r0))
  | _ => none
noncomputable def impl_CodeOk_l0 (A : PM.Prims) (c_283 : impl_OpOk_T) (c_284 : impl_isBalanced_T) (c_285 : impl_DepthAt_T) : Nat → (List (List Int)) → (Int) → (List (List Int)) → (Int) → (Int) → ((Bool) → PM.R) → (Unit → PM.R) → PM.R
  | 0, _, _, _, _, _, _, _ => none
  | n + 1, code2, forks3, t144, t155, t166, kret_0, kx0_0 =>
    bif (A.lt t166 t155) then
      bif (A.inb t166 (A.vlen t144)) then
        c_283 (A.vget t144 t166 0) (A.vget t144 t166 1) (A.vget t144 t166 2) (A.vget t144 t166 3) (fun r7 =>
          bif (A.not r7) then
            kret_0 false
          else
            bif (A.eq (A.vget t144 t166 0) 7) then
              bif (A.lt (A.vlen code2) (A.add .i64 (A.add .i64 t166 1) (A.vget t144 t166 2))) then
                kret_0 false
              else
                bif (A.subb (A.add .i64 t166 1) (A.add .i64 (A.add .i64 t166 1) (A.vget t144 t166 2)) (A.vlen code2)) then
                  c_284 (A.vsub code2 (A.add .i64 t166 1) (A.add .i64 (A.add .i64 t166 1) (A.vget t144 t166 2))) (fun r9 =>
                    bif (A.not r9) then
                      kret_0 false
                    else
                      impl_CodeOk_l0 A c_283 c_284 c_285 n code2 forks3 t144 t155 (A.add .i64 t166 1) kret_0 kx0_0)
                else
                  none
            else
              bif (A.eq (A.vget t144 t166 0) 11) then
                bif (A.lt 1 (A.add .i64 forks3 1)) then
                  kret_0 false
                else
                  c_285 code2 t166 (fun r10 =>
                    bif (A.not (A.eq r10 0)) then
                      kret_0 false
                    else
                      impl_CodeOk_l0 A c_283 c_284 c_285 n code2 (A.add .i64 forks3 1) t144 t155 (A.add .i64 t166 1) kret_0 kx0_0)
              else
                impl_CodeOk_l0 A c_283 c_284 c_285 n code2 forks3 t144 t155 (A.add .i64 t166 1) kret_0 kx0_0)
      else
        none
    else
      kx0_0 ()
noncomputable def impl_CodeOk_f (A : PM.Prims) (c_283 : impl_OpOk_T) (c_284 : impl_isBalanced_T) (c_285 : impl_DepthAt_T) (code : List (List Int)) (k : (Bool) → PM.R) : PM.R :=
  bif (A.lt 24 (A.vlen code)) then
    k false
  else
    c_284 code (fun r1 =>
      bif (A.not r1) then
        k false
      else
        impl_CodeOk_l0 A c_283 c_284 c_285 A.fuel code 0 code (A.vlen code) 0 (fun t2811 =>
          k t2811) (fun _ =>
          k true))
noncomputable def impl_CodeOk (A : PM.Prims) : impl_CodeOk_T := impl_CodeOk_f A (impl_OpOk A) (impl_isBalanced A) (impl_DepthAt A)
noncomputable def impl_CodeOk_L (A : PM.Prims) (c_283 : impl_OpOk_T) (c_284 : impl_isBalanced_T) (c_285 : impl_DepthAt_T) (n : Nat) : PM.Lam := fun cur σ K =>
  match cur, σ, K with
  | 0, ⟨[(0, .arr (.vecs 312 4 code2)), (3, .int .i64 forks3), (14, .arr (.vecs 312 4 t144)), (15, .int .i64 t155), (16, .int .i64 t166)], []⟩, K => impl_CodeOk_l0 A c_283 c_284 c_285 n code2 forks3 t144 t155 t166 (fun t28 => K .ret ⟨[(2, .bool t28)], []⟩) (fun _ => K (.exit 0) ⟨[], []⟩)
  | _, _, _ => none
noncomputable def impl_CodeOk_E (A : PM.Prims) (c_283 : impl_OpOk_T) (c_284 : impl_isBalanced_T) (c_285 : impl_DepthAt_T) : PM.Env := ⟨[(283, ⟨[], impl_OpOk_w c_283, none⟩), (284, ⟨[], impl_isBalanced_w c_284, none⟩), (285, ⟨[], impl_DepthAt_w c_285, none⟩)], [], [(0, [0, 3, 14, 15, 16], [2])], [(0, [0]), (1, [0, 13]), (2, [2]), (3, [0, 3]), (4, [0, 3, 14, 15, 16]), (5, [0, 3, 14, 15, 16, 17]), (6, [0, 3, 4, 5, 14, 15, 16]), (7, [0, 3, 4, 5, 14, 15, 16, 23]), (8, [2]), (9, [0, 3, 4, 5, 14, 15, 16, 25]), (10, [0, 3, 4, 5, 14, 15, 16, 25, 26]), (11, [0, 3, 14, 15, 16, 48]), (12, [2]), (13, [0, 3, 4, 14, 15, 16, 49]), (14, [0, 3, 4, 14, 15, 16]), (15, [0, 3, 14, 15, 16, 60]), (16, [2]), (17, [0, 3, 14, 15, 16]), (18, [2])], impl_CodeOk_L A c_283 c_284 c_285 A.fuel⟩
theorem impl_CodeOk_l0_ok (A : PM.Prims) (c_283 : impl_OpOk_T) (c_284 : impl_isBalanced_T) (c_285 : impl_DepthAt_T) (n : Nat) (code2 : List (List Int)) (forks3 : Int) (t144 : List (List Int)) (t155 : Int) (t166 : Int) (K : Go.Exit → PM.S → PM.R) : impl_CodeOk_L A c_283 c_284 c_285 (n + 1) 0 ⟨[(0, .arr (.vecs 312 4 code2)), (3, .int .i64 forks3), (14, .arr (.vecs 312 4 t144)), (15, .int .i64 t155), (16, .int .i64 t166)], []⟩ K = PM.roundF A cx (PM.runD A cx (impl_CodeOk_E A c_283 c_284 c_285).inl (impl_CodeOk_E A c_283 c_284 c_285).Γ 3) (impl_CodeOk_E A c_283 c_284 c_285) (impl_CodeOk_L A c_283 c_284 c_285 n) 0 Go.Proofs.Try.f228 ⟨[(0, .arr (.vecs 312 4 code2)), (3, .int .i64 forks3), (14, .arr (.vecs 312 4 t144)), (15, .int .i64 t155), (16, .int .i64 t166)], []⟩ K := by kernel_rfl
theorem impl_CodeOk_ok (A : PM.Prims) (c_283 : impl_OpOk_T) (c_284 : impl_isBalanced_T) (c_285 : impl_DepthAt_T) (code : List (List Int)) (k : PM.V → PM.R) : PM.pfun A cx [] (impl_CodeOk_E A c_283 c_284 c_285) Go.Proofs.Try.f228 [.arr (.vecs 312 4 code)] k = impl_CodeOk_f A c_283 c_284 c_285 code (fun r0 => k (.bool r0)) := by kernel_rfl

theorem impl_CodeOk_fn : PM.FnIs Try.prog 228 Try.f228 := .of Try.func228 (by kernel_rfl) (by kernel_rfl)
theorem impl_CodeOk_g : PM.GOk Try.prog cx 228 ⟨[], impl_CodeOk_w (impl_CodeOk PM.std), none⟩ := by
  refine ⟨impl_CodeOk_fn.enter, fun _ ds k r h => ?_, fun hm => absurd rfl hm, fun _ e => (by cases e)⟩
  change impl_CodeOk_w (impl_CodeOk PM.std) ds k = some r at h
  unfold impl_CodeOk_w at h
  split at h
  · exact PM.pfun_ok (E := impl_CodeOk_E PM.std (impl_OpOk PM.std) (impl_isBalanced PM.std) (impl_DepthAt PM.std)) (L := fun n => impl_CodeOk_L PM.std (impl_OpOk PM.std) (impl_isBalanced PM.std) (impl_DepthAt PM.std) n) (N := PM.std.fuel) cx_ok (.cons impl_OpOk_g (.cons impl_isBalanced_g (.cons impl_DepthAt_g .nil))) mixed .nil impl_CodeOk_fn (by kernel_rfl) ⟨rfl, fun cur σ K => by
      dsimp only [impl_CodeOk_L]
      split <;> rfl, fun n cur σ K r h => by
      dsimp only [impl_CodeOk_L] at h
      split at h
      · exact (impl_CodeOk_l0_ok PM.std (impl_OpOk PM.std) (impl_isBalanced PM.std) (impl_DepthAt PM.std) n _ _ _ _ _ K).symm.trans h
      · cases h⟩
      ((impl_CodeOk_ok PM.std (impl_OpOk PM.std) (impl_isBalanced PM.std) (impl_DepthAt PM.std) _ k).trans h)
  · cases h

end X
