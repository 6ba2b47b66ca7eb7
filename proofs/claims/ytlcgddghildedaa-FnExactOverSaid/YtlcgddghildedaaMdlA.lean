/- Models of the functions, or plain laws about them; each theorem states its own conditions. -/
import Derived.Test.YtlcgddghildedaaL3
import Derived.Test.YtlcgddghildedaaProg
import Derived.KernelRfl
set_option linter.unusedVariables false
set_option linter.unusedSimpArgs false

open Go.Proofs
namespace X
open PM
set_option maxRecDepth 100000
set_option maxHeartbeats 4000000
noncomputable def cx : PM.Cx := [
  (2, ⟨1, false, [.int .i64 0], none, 0, none, [], [], [], [.int .i64], false⟩),
  (3, ⟨1, false, [.int .i64 0], none, 0, none, [], [], [], [.int .i64], false⟩),
  (4, ⟨1, false, [.bool false], none, 0, none, [], [], [], [.bool], false⟩),
  (5, ⟨1, false, [.int .u8 0], none, 0, none, [], [], [], [.int .u8], false⟩),
  (6, ⟨1, false, [.int .u8 0], none, 0, none, [], [], [], [.int .u8], false⟩),
  (7, ⟨4, true, [.int .i64 0, .int .i64 0, .bool false, .int .u8 0], none, 0, none, [0, 1, 2, 3], [1, 1, 1, 1], [2, 3, 4, 6], [.int .i64, .int .i64, .bool, .int .u8], true⟩),
  (8, ⟨4, true, [.int .i64 0, .int .i64 0, .bool false, .int .u8 0], none, 0, none, [0, 1, 2, 3], [1, 1, 1, 1], [2, 3, 4, 6], [.int .i64, .int .i64, .bool, .int .u8], true⟩),
  (12, ⟨1, false, [.int .u64 0], none, 0, none, [], [], [], [.int .u64], false⟩),
  (21, ⟨1, false, [.int .i32 0], none, 0, none, [], [], [], [.int .i32], false⟩),
  (22, ⟨1, false, [.arr (.emp (.ints 5 .u8))], some (.ints 5 .u8), 1, none, [], [], [], [.sl 22], false⟩),
  (24, ⟨1, false, [.arr (.emp (.ints 3 .i64))], some (.ints 3 .i64), 1, none, [], [], [], [.sl 24], false⟩),
  (25, ⟨1, false, [.arr (.emp (.rows 33))], some (.rows 33), 3, none, [], [], [], [.sl 25], false⟩),
  (31, ⟨1, false, [.arr (.emp (.vecs 161 2))], some (.vecs 161 2), 2, none, [], [], [], [.sl 31], false⟩),
  (32, ⟨3, true, [.int .i64 0, .int .i64 0, .arr (.emp (.vecs 161 2))], none, 0, none, [0, 1, 2], [1, 1, 1], [3, 3, 31], [.int .i64, .int .i64, .sl 31], false⟩),
  (33, ⟨3, true, [.int .i64 0, .int .i64 0, .arr (.emp (.vecs 161 2))], none, 0, none, [0, 1, 2], [1, 1, 1], [3, 3, 31], [.int .i64, .int .i64, .sl 31], false⟩),
  (39, ⟨1, false, [.arr (.emp (.vecs 354 3))], some (.vecs 354 3), 3, none, [], [], [], [.sl 39], false⟩),
  (40, ⟨2, true, [.int .i64 0, .arr (.emp (.vecs 354 3))], none, 0, none, [0, 1], [1, 1], [3, 39], [.int .i64, .sl 39], false⟩),
  (41, ⟨2, true, [.int .i64 0, .arr (.emp (.vecs 354 3))], none, 0, none, [0, 1], [1, 1], [3, 39], [.int .i64, .sl 39], false⟩),
  (42, ⟨2, true, [.arr (.emp (.ints 3 .i64)), .int .i64 0], none, 0, none, [0, 1], [1, 1], [24, 3], [.sl 24, .int .i64], false⟩),
  (43, ⟨2, true, [.arr (.emp (.ints 3 .i64)), .int .i64 0], none, 0, none, [0, 1], [1, 1], [24, 3], [.sl 24, .int .i64], false⟩),
  (44, ⟨1, false, [.arr (.emp (.vecs 277 3))], some (.vecs 277 3), 3, none, [], [], [], [.sl 44], false⟩),
  (45, ⟨1, false, [.arr (.emp (.rows 272))], some (.rows 272), 40, none, [], [], [], [.sl 45], false⟩),
  (46, ⟨1, false, [.arr (.emp (.rows 195))], some (.rows 195), 3, none, [], [], [], [.sl 46], false⟩),
  (47, ⟨9, true, [.int .i64 0, .int .i64 0, .int .i64 0, .arr (.emp (.vecs 354 3)), .arr (.emp (.ints 3 .i64)), .int .i64 0, .arr (.emp (.vecs 277 3)), .arr (.emp (.rows 272)), .arr (.emp (.rows 195))], none, 0, none, [0, 1, 2, 4, 6, 7, 8], [1, 1, 2, 2, 1, 1, 1], [3, 3, 41, 43, 44, 45, 46], [.int .i64, .int .i64, .int .i64, .sl 39, .sl 24, .int .i64, .sl 44, .sl 45, .sl 46], false⟩),
  (48, ⟨9, true, [.int .i64 0, .int .i64 0, .int .i64 0, .arr (.emp (.vecs 354 3)), .arr (.emp (.ints 3 .i64)), .int .i64 0, .arr (.emp (.vecs 277 3)), .arr (.emp (.rows 272)), .arr (.emp (.rows 195))], none, 0, none, [0, 1, 2, 4, 6, 7, 8], [1, 1, 2, 2, 1, 1, 1], [3, 3, 41, 43, 44, 45, 46], [.int .i64, .int .i64, .int .i64, .sl 39, .sl 24, .int .i64, .sl 44, .sl 45, .sl 46], false⟩),
  (51, ⟨1, false, [.arr (.emp (.vecs 287 3))], some (.vecs 287 3), 3, none, [], [], [], [.sl 51], false⟩),
  (52, ⟨2, true, [.int .i64 0, .arr (.emp (.vecs 287 3))], none, 0, none, [0, 1], [1, 1], [3, 51], [.int .i64, .sl 51], false⟩),
  (53, ⟨2, true, [.int .i64 0, .arr (.emp (.vecs 287 3))], none, 0, none, [0, 1], [1, 1], [3, 51], [.int .i64, .sl 51], false⟩),
  (54, ⟨2, true, [.arr (.emp (.ints 3 .i64)), .int .i64 0], none, 0, none, [0, 1], [1, 1], [24, 3], [.sl 24, .int .i64], false⟩),
  (55, ⟨1, false, [.arr (.emp (.vecs 275 3))], some (.vecs 275 3), 3, none, [], [], [], [.sl 55], false⟩),
  (56, ⟨1, false, [.arr (.emp (.rows 175))], some (.rows 175), 40, none, [], [], [], [.sl 56], false⟩),
  (57, ⟨9, true, [.int .i64 0, .int .i64 0, .int .i64 0, .arr (.emp (.vecs 287 3)), .arr (.emp (.ints 3 .i64)), .int .i64 0, .arr (.emp (.vecs 275 3)), .arr (.emp (.rows 175)), .arr (.emp (.rows 33))], none, 0, none, [0, 1, 2, 4, 6, 7, 8], [1, 1, 2, 2, 1, 1, 1], [3, 3, 53, 54, 55, 56, 25], [.int .i64, .int .i64, .int .i64, .sl 51, .sl 24, .int .i64, .sl 55, .sl 56, .sl 25], false⟩),
  (58, ⟨9, true, [.int .i64 0, .int .i64 0, .int .i64 0, .arr (.emp (.vecs 287 3)), .arr (.emp (.ints 3 .i64)), .int .i64 0, .arr (.emp (.vecs 275 3)), .arr (.emp (.rows 175)), .arr (.emp (.rows 33))], none, 0, none, [0, 1, 2, 4, 6, 7, 8], [1, 1, 2, 2, 1, 1, 1], [3, 3, 53, 54, 55, 56, 25], [.int .i64, .int .i64, .int .i64, .sl 51, .sl 24, .int .i64, .sl 55, .sl 56, .sl 25], false⟩),
  (62, ⟨1, false, [.arr (.emp (.rows 285))], some (.rows 285), 18, none, [], [], [], [.sl 62], false⟩),
  (63, ⟨4, true, [.int .i64 0, .arr (.emp (.vecs 354 3)), .arr (.emp (.rows 285)), .arr (.emp (.rows 195))], none, 0, none, [0, 2, 3], [2, 1, 1], [41, 62, 46], [.int .i64, .sl 39, .sl 62, .sl 46], false⟩),
  (64, ⟨4, true, [.int .i64 0, .arr (.emp (.vecs 354 3)), .arr (.emp (.rows 285)), .arr (.emp (.rows 195))], none, 0, none, [0, 2, 3], [2, 1, 1], [41, 62, 46], [.int .i64, .sl 39, .sl 62, .sl 46], false⟩),
  (68, ⟨1, false, [.arr (.emp (.rows 189))], some (.rows 189), 18, none, [], [], [], [.sl 68], false⟩),
  (69, ⟨4, true, [.int .i64 0, .arr (.emp (.vecs 287 3)), .arr (.emp (.rows 189)), .arr (.emp (.rows 33))], none, 0, none, [0, 2, 3], [2, 1, 1], [53, 68, 25], [.int .i64, .sl 51, .sl 68, .sl 25], false⟩),
  (70, ⟨4, true, [.int .i64 0, .arr (.emp (.vecs 287 3)), .arr (.emp (.rows 189)), .arr (.emp (.rows 33))], none, 0, none, [0, 2, 3], [2, 1, 1], [53, 68, 25], [.int .i64, .sl 51, .sl 68, .sl 25], false⟩),
  (78, ⟨1, false, [.arr (.emp (.rows 203))], some (.rows 203), 2, none, [], [], [], [.sl 78], false⟩),
  (81, ⟨1, false, [.arr (.emp (.rows 205))], some (.rows 205), 2, none, [], [], [], [.sl 81], false⟩),
  (90, ⟨1, false, [.arr (.emp (.vecs 297 2))], some (.vecs 297 2), 2, none, [], [], [], [.sl 90], false⟩),
  (91, ⟨1, false, [.arr (.emp (.vecs 299 3))], some (.vecs 299 3), 3, none, [], [], [], [.sl 91], false⟩),
  (92, ⟨1, false, [.arr (.emp (.rows 295))], some (.rows 295), 15, none, [], [], [], [.sl 92], false⟩),
  (93, ⟨10, true, [.int .i64 0, .int .i64 0, .int .i64 0, .bool false, .arr (.emp (.ints 3 .i64)), .arr (.emp (.vecs 297 2)), .arr (.emp (.vecs 299 3)), .arr (.emp (.ints 3 .i64)), .arr (.emp (.vecs 297 2)), .arr (.emp (.rows 295))], none, 0, none, [0, 1, 2, 3, 4, 5, 6, 7, 8, 9], [1, 1, 1, 1, 1, 1, 1, 1, 1, 1], [3, 3, 3, 4, 24, 90, 91, 24, 90, 92], [.int .i64, .int .i64, .int .i64, .bool, .sl 24, .sl 90, .sl 91, .sl 24, .sl 90, .sl 92], false⟩),
  (94, ⟨10, true, [.int .i64 0, .int .i64 0, .int .i64 0, .bool false, .arr (.emp (.ints 3 .i64)), .arr (.emp (.vecs 297 2)), .arr (.emp (.vecs 299 3)), .arr (.emp (.ints 3 .i64)), .arr (.emp (.vecs 297 2)), .arr (.emp (.rows 295))], none, 0, none, [0, 1, 2, 3, 4, 5, 6, 7, 8, 9], [1, 1, 1, 1, 1, 1, 1, 1, 1, 1], [3, 3, 3, 4, 24, 90, 91, 24, 90, 92], [.int .i64, .int .i64, .int .i64, .bool, .sl 24, .sl 90, .sl 91, .sl 24, .sl 90, .sl 92], false⟩),
  (97, ⟨1, false, [.arr (.emp (.vecs 225 3))], some (.vecs 225 3), 3, none, [], [], [], [.sl 97], false⟩),
  (98, ⟨1, false, [.arr (.emp (.rows 214))], some (.rows 214), 15, none, [], [], [], [.sl 98], false⟩),
  (99, ⟨10, true, [.int .i64 0, .int .i64 0, .int .i64 0, .bool false, .arr (.emp (.ints 3 .i64)), .arr (.emp (.vecs 161 2)), .arr (.emp (.vecs 225 3)), .arr (.emp (.ints 3 .i64)), .arr (.emp (.vecs 161 2)), .arr (.emp (.rows 214))], none, 0, none, [0, 1, 2, 3, 4, 5, 6, 7, 8, 9], [1, 1, 1, 1, 1, 1, 1, 1, 1, 1], [3, 3, 3, 4, 24, 31, 97, 24, 31, 98], [.int .i64, .int .i64, .int .i64, .bool, .sl 24, .sl 31, .sl 97, .sl 24, .sl 31, .sl 98], false⟩),
  (100, ⟨10, true, [.int .i64 0, .int .i64 0, .int .i64 0, .bool false, .arr (.emp (.ints 3 .i64)), .arr (.emp (.vecs 161 2)), .arr (.emp (.vecs 225 3)), .arr (.emp (.ints 3 .i64)), .arr (.emp (.vecs 161 2)), .arr (.emp (.rows 214))], none, 0, none, [0, 1, 2, 3, 4, 5, 6, 7, 8, 9], [1, 1, 1, 1, 1, 1, 1, 1, 1, 1], [3, 3, 3, 4, 24, 31, 97, 24, 31, 98], [.int .i64, .int .i64, .int .i64, .bool, .sl 24, .sl 31, .sl 97, .sl 24, .sl 31, .sl 98], false⟩),
  (112, ⟨1, false, [.arr (.emp (.rows 309))], some (.rows 309), 1, none, [], [], [], [.sl 112], false⟩),
  (113, ⟨5, true, [.arr (.emp (.ints 3 .i64)), .arr (.emp (.ints 3 .i64)), .arr (.emp (.vecs 297 2)), .arr (.emp (.rows 309)), .arr (.emp (.ints 3 .i64))], none, 0, none, [0, 1, 2, 3, 4], [1, 1, 1, 1, 1], [24, 24, 90, 112, 24], [.sl 24, .sl 24, .sl 90, .sl 112, .sl 24], false⟩),
  (114, ⟨5, true, [.arr (.emp (.ints 3 .i64)), .arr (.emp (.ints 3 .i64)), .arr (.emp (.vecs 297 2)), .arr (.emp (.rows 309)), .arr (.emp (.ints 3 .i64))], none, 0, none, [0, 1, 2, 3, 4], [1, 1, 1, 1, 1], [24, 24, 90, 112, 24], [.sl 24, .sl 24, .sl 90, .sl 112, .sl 24], false⟩),
  (117, ⟨1, false, [.arr (.emp (.rows 233))], some (.rows 233), 1, none, [], [], [], [.sl 117], false⟩),
  (118, ⟨5, true, [.arr (.emp (.ints 3 .i64)), .arr (.emp (.ints 3 .i64)), .arr (.emp (.vecs 161 2)), .arr (.emp (.rows 233)), .arr (.emp (.ints 3 .i64))], none, 0, none, [0, 1, 2, 3, 4], [1, 1, 1, 1, 1], [24, 24, 31, 117, 24], [.sl 24, .sl 24, .sl 31, .sl 117, .sl 24], false⟩),
  (119, ⟨5, true, [.arr (.emp (.ints 3 .i64)), .arr (.emp (.ints 3 .i64)), .arr (.emp (.vecs 161 2)), .arr (.emp (.rows 233)), .arr (.emp (.ints 3 .i64))], none, 0, none, [0, 1, 2, 3, 4], [1, 1, 1, 1, 1], [24, 24, 31, 117, 24], [.sl 24, .sl 24, .sl 31, .sl 117, .sl 24], false⟩),
  (127, ⟨3, true, [.arr (.emp (.ints 3 .i64)), .arr (.emp (.ints 3 .i64)), .int .i64 0], none, 0, none, [0, 1, 2], [1, 1, 1], [24, 24, 3], [.sl 24, .sl 24, .int .i64], false⟩),
  (128, ⟨3, true, [.arr (.emp (.ints 3 .i64)), .arr (.emp (.ints 3 .i64)), .int .i64 0], none, 0, none, [0, 1, 2], [1, 1, 1], [24, 24, 3], [.sl 24, .sl 24, .int .i64], false⟩),
  (129, ⟨1, false, [.arr (.emp (.rows 317))], some (.rows 317), 2, none, [], [], [], [.sl 129], false⟩),
  (130, ⟨1, false, [.arr (.emp (.vecs 322 3))], some (.vecs 322 3), 3, none, [], [], [], [.sl 130], false⟩),
  (131, ⟨5, true, [.arr (.emp (.ints 3 .i64)), .arr (.emp (.ints 3 .i64)), .int .i64 0, .arr (.emp (.rows 317)), .arr (.emp (.vecs 322 3))], none, 0, none, [0, 3, 4], [3, 1, 1], [128, 129, 130], [.sl 24, .sl 24, .int .i64, .sl 129, .sl 130], false⟩),
  (132, ⟨5, true, [.arr (.emp (.ints 3 .i64)), .arr (.emp (.ints 3 .i64)), .int .i64 0, .arr (.emp (.rows 317)), .arr (.emp (.vecs 322 3))], none, 0, none, [0, 3, 4], [3, 1, 1], [128, 129, 130], [.sl 24, .sl 24, .int .i64, .sl 129, .sl 130], false⟩),
  (135, ⟨3, true, [.arr (.emp (.ints 3 .i64)), .arr (.emp (.ints 3 .i64)), .int .i64 0], none, 0, none, [0, 1, 2], [1, 1, 1], [24, 24, 3], [.sl 24, .sl 24, .int .i64], false⟩),
  (136, ⟨1, false, [.arr (.emp (.rows 242))], some (.rows 242), 2, none, [], [], [], [.sl 136], false⟩),
  (137, ⟨1, false, [.arr (.emp (.vecs 320 3))], some (.vecs 320 3), 3, none, [], [], [], [.sl 137], false⟩),
  (138, ⟨5, true, [.arr (.emp (.ints 3 .i64)), .arr (.emp (.ints 3 .i64)), .int .i64 0, .arr (.emp (.rows 242)), .arr (.emp (.vecs 320 3))], none, 0, none, [0, 3, 4], [3, 1, 1], [135, 136, 137], [.sl 24, .sl 24, .int .i64, .sl 136, .sl 137], false⟩),
  (139, ⟨5, true, [.arr (.emp (.ints 3 .i64)), .arr (.emp (.ints 3 .i64)), .int .i64 0, .arr (.emp (.rows 242)), .arr (.emp (.vecs 320 3))], none, 0, none, [0, 3, 4], [3, 1, 1], [135, 136, 137], [.sl 24, .sl 24, .int .i64, .sl 136, .sl 137], false⟩),
  (160, ⟨2, true, [.int .i64 0, .int .i64 0], none, 0, none, [0, 1], [1, 1], [3, 3], [.int .i64, .int .i64], true⟩),
  (161, ⟨2, true, [.int .i64 0, .int .i64 0], none, 0, none, [0, 1], [1, 1], [3, 3], [.int .i64, .int .i64], true⟩),
  (168, ⟨1, false, [.arr (.emp (.rows 396))], some (.rows 396), 5, none, [], [], [], [.sl 168], false⟩),
  (169, ⟨1, false, [.arr (.emp (.vecs 399 3))], some (.vecs 399 3), 3, none, [], [], [], [.sl 169], false⟩),
  (170, ⟨4, true, [.int .i64 0, .int .i64 0, .int .i64 0, .int .i64 0], none, 0, none, [0, 1, 2, 3], [1, 1, 1, 1], [3, 3, 3, 3], [.int .i64, .int .i64, .int .i64, .int .i64], true⟩),
  (171, ⟨4, true, [.int .i64 0, .int .i64 0, .int .i64 0, .int .i64 0], none, 0, none, [0, 1, 2, 3], [1, 1, 1, 1], [3, 3, 3, 3], [.int .i64, .int .i64, .int .i64, .int .i64], true⟩),
  (172, ⟨7, true, [.int .i64 0, .int .i64 0, .int .i64 0, .int .i64 0, .int .i64 0, .arr (.emp (.vecs 161 2)), .arr (.emp (.ints 3 .i64))], none, 0, none, [0, 1, 2, 3, 4, 5, 6], [1, 1, 1, 1, 1, 1, 1], [3, 3, 3, 3, 3, 31, 24], [.int .i64, .int .i64, .int .i64, .int .i64, .int .i64, .sl 31, .sl 24], false⟩),
  (173, ⟨7, true, [.int .i64 0, .int .i64 0, .int .i64 0, .int .i64 0, .int .i64 0, .arr (.emp (.vecs 161 2)), .arr (.emp (.ints 3 .i64))], none, 0, none, [0, 1, 2, 3, 4, 5, 6], [1, 1, 1, 1, 1, 1, 1], [3, 3, 3, 3, 3, 31, 24], [.int .i64, .int .i64, .int .i64, .int .i64, .int .i64, .sl 31, .sl 24], false⟩),
  (174, ⟨40, true, [.int .i64 0, .int .i64 0, .int .i64 0, .int .i64 0, .int .i64 0, .int .i64 0, .int .i64 0, .int .i64 0, .int .i64 0, .int .i64 0, .int .i64 0, .bool false, .arr (.emp (.ints 3 .i64)), .arr (.emp (.vecs 161 2)), .arr (.emp (.vecs 161 2)), .arr (.emp (.rows 396)), .arr (.emp (.vecs 399 3)), .arr (.emp (.ints 3 .i64)), .bool false, .int .i64 0, .int .i64 0, .int .i64 0, .int .i64 0, .int .i64 0, .int .i64 0, .int .i64 0, .int .i64 0, .int .i64 0, .arr (.emp (.vecs 161 2)), .arr (.emp (.ints 3 .i64)), .int .i64 0, .int .i64 0, .int .i64 0, .bool false, .arr (.emp (.ints 3 .i64)), .arr (.emp (.vecs 161 2)), .arr (.emp (.vecs 225 3)), .arr (.emp (.ints 3 .i64)), .arr (.emp (.vecs 161 2)), .arr (.emp (.rows 214))], none, 0, none, [0, 1, 2, 3, 4, 5, 6, 7, 8, 9, 10, 11, 12, 13, 14, 15, 16, 17, 18, 19, 23, 30], [1, 1, 1, 1, 1, 1, 1, 1, 1, 1, 1, 1, 1, 1, 1, 1, 1, 1, 1, 4, 7, 10], [3, 3, 3, 3, 3, 3, 3, 3, 3, 3, 3, 4, 24, 31, 31, 168, 169, 24, 4, 171, 173, 100], [.int .i64, .int .i64, .int .i64, .int .i64, .int .i64, .int .i64, .int .i64, .int .i64, .int .i64, .int .i64, .int .i64, .bool, .sl 24, .sl 31, .sl 31, .sl 168, .sl 169, .sl 24, .bool, .int .i64, .int .i64, .int .i64, .int .i64, .int .i64, .int .i64, .int .i64, .int .i64, .int .i64, .sl 31, .sl 24, .int .i64, .int .i64, .int .i64, .bool, .sl 24, .sl 31, .sl 97, .sl 24, .sl 31, .sl 98], false⟩),
  (175, ⟨40, true, [.int .i64 0, .int .i64 0, .int .i64 0, .int .i64 0, .int .i64 0, .int .i64 0, .int .i64 0, .int .i64 0, .int .i64 0, .int .i64 0, .int .i64 0, .bool false, .arr (.emp (.ints 3 .i64)), .arr (.emp (.vecs 161 2)), .arr (.emp (.vecs 161 2)), .arr (.emp (.rows 396)), .arr (.emp (.vecs 399 3)), .arr (.emp (.ints 3 .i64)), .bool false, .int .i64 0, .int .i64 0, .int .i64 0, .int .i64 0, .int .i64 0, .int .i64 0, .int .i64 0, .int .i64 0, .int .i64 0, .arr (.emp (.vecs 161 2)), .arr (.emp (.ints 3 .i64)), .int .i64 0, .int .i64 0, .int .i64 0, .bool false, .arr (.emp (.ints 3 .i64)), .arr (.emp (.vecs 161 2)), .arr (.emp (.vecs 225 3)), .arr (.emp (.ints 3 .i64)), .arr (.emp (.vecs 161 2)), .arr (.emp (.rows 214))], none, 0, none, [0, 1, 2, 3, 4, 5, 6, 7, 8, 9, 10, 11, 12, 13, 14, 15, 16, 17, 18, 19, 23, 30], [1, 1, 1, 1, 1, 1, 1, 1, 1, 1, 1, 1, 1, 1, 1, 1, 1, 1, 1, 4, 7, 10], [3, 3, 3, 3, 3, 3, 3, 3, 3, 3, 3, 4, 24, 31, 31, 168, 169, 24, 4, 171, 173, 100], [.int .i64, .int .i64, .int .i64, .int .i64, .int .i64, .int .i64, .int .i64, .int .i64, .int .i64, .int .i64, .int .i64, .bool, .sl 24, .sl 31, .sl 31, .sl 168, .sl 169, .sl 24, .bool, .int .i64, .int .i64, .int .i64, .int .i64, .int .i64, .int .i64, .int .i64, .int .i64, .int .i64, .sl 31, .sl 24, .int .i64, .int .i64, .int .i64, .bool, .sl 24, .sl 31, .sl 97, .sl 24, .sl 31, .sl 98], false⟩),
  (188, ⟨18, true, [.int .i64 0, .int .i64 0, .int .i64 0, .int .i64 0, .int .i64 0, .arr (.emp (.vecs 161 2)), .bool false, .int .i64 0, .int .i64 0, .int .i64 0, .int .i64 0, .int .i64 0, .int .i64 0, .int .i64 0, .int .i64 0, .int .i64 0, .arr (.emp (.vecs 161 2)), .arr (.emp (.ints 3 .i64))], none, 0, none, [0, 1, 2, 3, 4, 5, 6, 7, 11], [1, 1, 1, 1, 1, 1, 1, 4, 7], [3, 3, 3, 3, 3, 31, 4, 171, 173], [.int .i64, .int .i64, .int .i64, .int .i64, .int .i64, .sl 31, .bool, .int .i64, .int .i64, .int .i64, .int .i64, .int .i64, .int .i64, .int .i64, .int .i64, .int .i64, .sl 31, .sl 24], false⟩),
  (189, ⟨18, true, [.int .i64 0, .int .i64 0, .int .i64 0, .int .i64 0, .int .i64 0, .arr (.emp (.vecs 161 2)), .bool false, .int .i64 0, .int .i64 0, .int .i64 0, .int .i64 0, .int .i64 0, .int .i64 0, .int .i64 0, .int .i64 0, .int .i64 0, .arr (.emp (.vecs 161 2)), .arr (.emp (.ints 3 .i64))], none, 0, none, [0, 1, 2, 3, 4, 5, 6, 7, 11], [1, 1, 1, 1, 1, 1, 1, 4, 7], [3, 3, 3, 3, 3, 31, 4, 171, 173], [.int .i64, .int .i64, .int .i64, .int .i64, .int .i64, .sl 31, .bool, .int .i64, .int .i64, .int .i64, .int .i64, .int .i64, .int .i64, .int .i64, .int .i64, .int .i64, .sl 31, .sl 24], false⟩),
  (194, ⟨3, true, [.int .i64 0, .int .i64 0, .arr (.emp (.vecs 297 2))], none, 0, none, [0, 1, 2], [1, 1, 1], [3, 3, 90], [.int .i64, .int .i64, .sl 90], false⟩),
  (195, ⟨3, true, [.int .i64 0, .int .i64 0, .arr (.emp (.vecs 297 2))], none, 0, none, [0, 1, 2], [1, 1, 1], [3, 3, 90], [.int .i64, .int .i64, .sl 90], false⟩),
  (202, ⟨2, true, [.arr (.emp (.ints 3 .i64)), .arr (.emp (.vecs 297 2))], none, 0, none, [0, 1], [1, 1], [24, 90], [.sl 24, .sl 90], false⟩),
  (203, ⟨2, true, [.arr (.emp (.ints 3 .i64)), .arr (.emp (.vecs 297 2))], none, 0, none, [0, 1], [1, 1], [24, 90], [.sl 24, .sl 90], false⟩),
  (204, ⟨2, true, [.arr (.emp (.ints 3 .i64)), .arr (.emp (.vecs 161 2))], none, 0, none, [0, 1], [1, 1], [24, 31], [.sl 24, .sl 31], false⟩),
  (205, ⟨2, true, [.arr (.emp (.ints 3 .i64)), .arr (.emp (.vecs 161 2))], none, 0, none, [0, 1], [1, 1], [24, 31], [.sl 24, .sl 31], false⟩),
  (212, ⟨1, false, [.arr (.emp (.rows 368))], some (.rows 368), 3, none, [], [], [], [.sl 212], false⟩),
  (213, ⟨15, true, [.int .i64 0, .int .i64 0, .int .i64 0, .int .i64 0, .int .i64 0, .int .i64 0, .arr (.emp (.ints 3 .i64)), .arr (.emp (.vecs 225 3)), .arr (.emp (.vecs 161 2)), .arr (.emp (.rows 368)), .bool false, .int .i64 0, .int .i64 0, .int .i64 0, .int .i64 0], none, 0, none, [0, 1, 2, 3, 4, 5, 6, 7, 8, 9, 10, 11], [1, 1, 1, 1, 1, 1, 1, 1, 1, 1, 1, 4], [3, 3, 3, 3, 3, 3, 24, 97, 31, 212, 4, 171], [.int .i64, .int .i64, .int .i64, .int .i64, .int .i64, .int .i64, .sl 24, .sl 97, .sl 31, .sl 212, .bool, .int .i64, .int .i64, .int .i64, .int .i64], false⟩),
  (214, ⟨15, true, [.int .i64 0, .int .i64 0, .int .i64 0, .int .i64 0, .int .i64 0, .int .i64 0, .arr (.emp (.ints 3 .i64)), .arr (.emp (.vecs 225 3)), .arr (.emp (.vecs 161 2)), .arr (.emp (.rows 368)), .bool false, .int .i64 0, .int .i64 0, .int .i64 0, .int .i64 0], none, 0, none, [0, 1, 2, 3, 4, 5, 6, 7, 8, 9, 10, 11], [1, 1, 1, 1, 1, 1, 1, 1, 1, 1, 1, 4], [3, 3, 3, 3, 3, 3, 24, 97, 31, 212, 4, 171], [.int .i64, .int .i64, .int .i64, .int .i64, .int .i64, .int .i64, .sl 24, .sl 97, .sl 31, .sl 212, .bool, .int .i64, .int .i64, .int .i64, .int .i64], false⟩),
  (224, ⟨3, true, [.int .i64 0, .int .i64 0, .int .i64 0], none, 0, none, [0, 1, 2], [1, 1, 1], [3, 3, 3], [.int .i64, .int .i64, .int .i64], true⟩),
  (225, ⟨3, true, [.int .i64 0, .int .i64 0, .int .i64 0], none, 0, none, [0, 1, 2], [1, 1, 1], [3, 3, 3], [.int .i64, .int .i64, .int .i64], true⟩),
  (231, ⟨1, false, [.arr (.emp (.vecs 312 4))], some (.vecs 312 4), 4, none, [], [], [], [.sl 231], false⟩),
  (232, ⟨1, true, [.arr (.emp (.vecs 312 4))], none, 0, none, [0], [1], [231], [.sl 231], false⟩),
  (233, ⟨1, true, [.arr (.emp (.vecs 312 4))], none, 0, none, [0], [1], [231], [.sl 231], false⟩),
  (241, ⟨2, true, [.arr (.emp (.vecs 312 4)), .arr (.emp (.rows 233))], none, 0, none, [0, 1], [1, 1], [231, 117], [.sl 231, .sl 117], false⟩),
  (242, ⟨2, true, [.arr (.emp (.vecs 312 4)), .arr (.emp (.rows 233))], none, 0, none, [0, 1], [1, 1], [231, 117], [.sl 231, .sl 117], false⟩),
  (256, ⟨3, true, [.arr (.emp (.ints 5 .u8)), .int .i64 0, .int .i64 0], none, 0, none, [0, 1, 2], [1, 1, 1], [22, 3, 3], [.sl 22, .int .i64, .int .i64], false⟩),
  (257, ⟨3, true, [.arr (.emp (.ints 5 .u8)), .int .i64 0, .int .i64 0], none, 0, none, [0, 1, 2], [1, 1, 1], [22, 3, 3], [.sl 22, .int .i64, .int .i64], false⟩),
  (262, ⟨1, false, [.int .u64 0], none, 0, none, [], [], [], [.int .u64], false⟩),
  (266, ⟨1, false, [.arr (.emp (.rows 395))], some (.rows 395), 5, none, [], [], [], [.sl 266], false⟩),
  (267, ⟨1, false, [.arr (.emp (.vecs 401 3))], some (.vecs 401 3), 3, none, [], [], [], [.sl 267], false⟩),
  (268, ⟨4, true, [.int .i64 0, .int .i64 0, .int .i64 0, .int .i64 0], none, 0, none, [0, 1, 2, 3], [1, 1, 1, 1], [3, 3, 3, 3], [.int .i64, .int .i64, .int .i64, .int .i64], true⟩),
  (269, ⟨7, true, [.int .i64 0, .int .i64 0, .int .i64 0, .int .i64 0, .int .i64 0, .arr (.emp (.vecs 297 2)), .arr (.emp (.ints 3 .i64))], none, 0, none, [0, 1, 2, 3, 4, 5, 6], [1, 1, 1, 1, 1, 1, 1], [3, 3, 3, 3, 3, 90, 24], [.int .i64, .int .i64, .int .i64, .int .i64, .int .i64, .sl 90, .sl 24], false⟩),
  (270, ⟨7, true, [.int .i64 0, .int .i64 0, .int .i64 0, .int .i64 0, .int .i64 0, .arr (.emp (.vecs 297 2)), .arr (.emp (.ints 3 .i64))], none, 0, none, [0, 1, 2, 3, 4, 5, 6], [1, 1, 1, 1, 1, 1, 1], [3, 3, 3, 3, 3, 90, 24], [.int .i64, .int .i64, .int .i64, .int .i64, .int .i64, .sl 90, .sl 24], false⟩),
  (271, ⟨40, true, [.int .i64 0, .int .i64 0, .int .i64 0, .int .i64 0, .int .i64 0, .int .i64 0, .int .i64 0, .int .i64 0, .int .i64 0, .int .i64 0, .int .i64 0, .bool false, .arr (.emp (.ints 3 .i64)), .arr (.emp (.vecs 297 2)), .arr (.emp (.vecs 297 2)), .arr (.emp (.rows 395)), .arr (.emp (.vecs 401 3)), .arr (.emp (.ints 3 .i64)), .bool false, .int .i64 0, .int .i64 0, .int .i64 0, .int .i64 0, .int .i64 0, .int .i64 0, .int .i64 0, .int .i64 0, .int .i64 0, .arr (.emp (.vecs 297 2)), .arr (.emp (.ints 3 .i64)), .int .i64 0, .int .i64 0, .int .i64 0, .bool false, .arr (.emp (.ints 3 .i64)), .arr (.emp (.vecs 297 2)), .arr (.emp (.vecs 299 3)), .arr (.emp (.ints 3 .i64)), .arr (.emp (.vecs 297 2)), .arr (.emp (.rows 295))], none, 0, none, [0, 1, 2, 3, 4, 5, 6, 7, 8, 9, 10, 11, 12, 13, 14, 15, 16, 17, 18, 19, 23, 30], [1, 1, 1, 1, 1, 1, 1, 1, 1, 1, 1, 1, 1, 1, 1, 1, 1, 1, 1, 4, 7, 10], [3, 3, 3, 3, 3, 3, 3, 3, 3, 3, 3, 4, 24, 90, 90, 266, 267, 24, 4, 268, 270, 94], [.int .i64, .int .i64, .int .i64, .int .i64, .int .i64, .int .i64, .int .i64, .int .i64, .int .i64, .int .i64, .int .i64, .bool, .sl 24, .sl 90, .sl 90, .sl 266, .sl 267, .sl 24, .bool, .int .i64, .int .i64, .int .i64, .int .i64, .int .i64, .int .i64, .int .i64, .int .i64, .int .i64, .sl 90, .sl 24, .int .i64, .int .i64, .int .i64, .bool, .sl 24, .sl 90, .sl 91, .sl 24, .sl 90, .sl 92], false⟩),
  (272, ⟨40, true, [.int .i64 0, .int .i64 0, .int .i64 0, .int .i64 0, .int .i64 0, .int .i64 0, .int .i64 0, .int .i64 0, .int .i64 0, .int .i64 0, .int .i64 0, .bool false, .arr (.emp (.ints 3 .i64)), .arr (.emp (.vecs 297 2)), .arr (.emp (.vecs 297 2)), .arr (.emp (.rows 395)), .arr (.emp (.vecs 401 3)), .arr (.emp (.ints 3 .i64)), .bool false, .int .i64 0, .int .i64 0, .int .i64 0, .int .i64 0, .int .i64 0, .int .i64 0, .int .i64 0, .int .i64 0, .int .i64 0, .arr (.emp (.vecs 297 2)), .arr (.emp (.ints 3 .i64)), .int .i64 0, .int .i64 0, .int .i64 0, .bool false, .arr (.emp (.ints 3 .i64)), .arr (.emp (.vecs 297 2)), .arr (.emp (.vecs 299 3)), .arr (.emp (.ints 3 .i64)), .arr (.emp (.vecs 297 2)), .arr (.emp (.rows 295))], none, 0, none, [0, 1, 2, 3, 4, 5, 6, 7, 8, 9, 10, 11, 12, 13, 14, 15, 16, 17, 18, 19, 23, 30], [1, 1, 1, 1, 1, 1, 1, 1, 1, 1, 1, 1, 1, 1, 1, 1, 1, 1, 1, 4, 7, 10], [3, 3, 3, 3, 3, 3, 3, 3, 3, 3, 3, 4, 24, 90, 90, 266, 267, 24, 4, 268, 270, 94], [.int .i64, .int .i64, .int .i64, .int .i64, .int .i64, .int .i64, .int .i64, .int .i64, .int .i64, .int .i64, .int .i64, .bool, .sl 24, .sl 90, .sl 90, .sl 266, .sl 267, .sl 24, .bool, .int .i64, .int .i64, .int .i64, .int .i64, .int .i64, .int .i64, .int .i64, .int .i64, .int .i64, .sl 90, .sl 24, .int .i64, .int .i64, .int .i64, .bool, .sl 24, .sl 90, .sl 91, .sl 24, .sl 90, .sl 92], false⟩),
  (274, ⟨3, true, [.int .i64 0, .int .i64 0, .int .i64 0], none, 0, none, [0, 1, 2], [1, 1, 1], [3, 3, 3], [.int .i64, .int .i64, .int .i64], true⟩),
  (275, ⟨3, true, [.int .i64 0, .int .i64 0, .int .i64 0], none, 0, none, [0, 1, 2], [1, 1, 1], [3, 3, 3], [.int .i64, .int .i64, .int .i64], true⟩),
  (277, ⟨3, true, [.int .i64 0, .int .i64 0, .int .i64 0], none, 0, none, [0, 1, 2], [1, 1, 1], [3, 3, 3], [.int .i64, .int .i64, .int .i64], true⟩),
  (284, ⟨18, true, [.int .i64 0, .int .i64 0, .int .i64 0, .int .i64 0, .int .i64 0, .arr (.emp (.vecs 297 2)), .bool false, .int .i64 0, .int .i64 0, .int .i64 0, .int .i64 0, .int .i64 0, .int .i64 0, .int .i64 0, .int .i64 0, .int .i64 0, .arr (.emp (.vecs 297 2)), .arr (.emp (.ints 3 .i64))], none, 0, none, [0, 1, 2, 3, 4, 5, 6, 7, 11], [1, 1, 1, 1, 1, 1, 1, 4, 7], [3, 3, 3, 3, 3, 90, 4, 268, 270], [.int .i64, .int .i64, .int .i64, .int .i64, .int .i64, .sl 90, .bool, .int .i64, .int .i64, .int .i64, .int .i64, .int .i64, .int .i64, .int .i64, .int .i64, .int .i64, .sl 90, .sl 24], false⟩),
  (285, ⟨18, true, [.int .i64 0, .int .i64 0, .int .i64 0, .int .i64 0, .int .i64 0, .arr (.emp (.vecs 297 2)), .bool false, .int .i64 0, .int .i64 0, .int .i64 0, .int .i64 0, .int .i64 0, .int .i64 0, .int .i64 0, .int .i64 0, .int .i64 0, .arr (.emp (.vecs 297 2)), .arr (.emp (.ints 3 .i64))], none, 0, none, [0, 1, 2, 3, 4, 5, 6, 7, 11], [1, 1, 1, 1, 1, 1, 1, 4, 7], [3, 3, 3, 3, 3, 90, 4, 268, 270], [.int .i64, .int .i64, .int .i64, .int .i64, .int .i64, .sl 90, .bool, .int .i64, .int .i64, .int .i64, .int .i64, .int .i64, .int .i64, .int .i64, .int .i64, .int .i64, .sl 90, .sl 24], false⟩),
  (286, ⟨3, true, [.int .i64 0, .int .i64 0, .int .i64 0], none, 0, none, [0, 1, 2], [1, 1, 1], [3, 3, 3], [.int .i64, .int .i64, .int .i64], true⟩),
  (287, ⟨3, true, [.int .i64 0, .int .i64 0, .int .i64 0], none, 0, none, [0, 1, 2], [1, 1, 1], [3, 3, 3], [.int .i64, .int .i64, .int .i64], true⟩),
  (293, ⟨1, false, [.arr (.emp (.rows 405))], some (.rows 405), 3, none, [], [], [], [.sl 293], false⟩),
  (294, ⟨15, true, [.int .i64 0, .int .i64 0, .int .i64 0, .int .i64 0, .int .i64 0, .int .i64 0, .arr (.emp (.ints 3 .i64)), .arr (.emp (.vecs 299 3)), .arr (.emp (.vecs 297 2)), .arr (.emp (.rows 405)), .bool false, .int .i64 0, .int .i64 0, .int .i64 0, .int .i64 0], none, 0, none, [0, 1, 2, 3, 4, 5, 6, 7, 8, 9, 10, 11], [1, 1, 1, 1, 1, 1, 1, 1, 1, 1, 1, 4], [3, 3, 3, 3, 3, 3, 24, 91, 90, 293, 4, 268], [.int .i64, .int .i64, .int .i64, .int .i64, .int .i64, .int .i64, .sl 24, .sl 91, .sl 90, .sl 293, .bool, .int .i64, .int .i64, .int .i64, .int .i64], false⟩),
  (295, ⟨15, true, [.int .i64 0, .int .i64 0, .int .i64 0, .int .i64 0, .int .i64 0, .int .i64 0, .arr (.emp (.ints 3 .i64)), .arr (.emp (.vecs 299 3)), .arr (.emp (.vecs 297 2)), .arr (.emp (.rows 405)), .bool false, .int .i64 0, .int .i64 0, .int .i64 0, .int .i64 0], none, 0, none, [0, 1, 2, 3, 4, 5, 6, 7, 8, 9, 10, 11], [1, 1, 1, 1, 1, 1, 1, 1, 1, 1, 1, 4], [3, 3, 3, 3, 3, 3, 24, 91, 90, 293, 4, 268], [.int .i64, .int .i64, .int .i64, .int .i64, .int .i64, .int .i64, .sl 24, .sl 91, .sl 90, .sl 293, .bool, .int .i64, .int .i64, .int .i64, .int .i64], false⟩),
  (297, ⟨2, true, [.int .i64 0, .int .i64 0], none, 0, none, [0, 1], [1, 1], [3, 3], [.int .i64, .int .i64], true⟩),
  (299, ⟨3, true, [.int .i64 0, .int .i64 0, .int .i64 0], none, 0, none, [0, 1, 2], [1, 1, 1], [3, 3, 3], [.int .i64, .int .i64, .int .i64], true⟩),
  (307, ⟨1, false, [.arr (.emp (.vecs 409 4))], some (.vecs 409 4), 4, none, [], [], [], [.sl 307], false⟩),
  (308, ⟨1, true, [.arr (.emp (.vecs 409 4))], none, 0, none, [0], [1], [307], [.sl 307], false⟩),
  (309, ⟨1, true, [.arr (.emp (.vecs 409 4))], none, 0, none, [0], [1], [307], [.sl 307], false⟩),
  (311, ⟨4, true, [.int .i64 0, .int .i64 0, .int .i64 0, .int .i64 0], none, 0, none, [0, 1, 2, 3], [1, 1, 1, 1], [3, 3, 3, 3], [.int .i64, .int .i64, .int .i64, .int .i64], true⟩),
  (312, ⟨4, true, [.int .i64 0, .int .i64 0, .int .i64 0, .int .i64 0], none, 0, none, [0, 1, 2, 3], [1, 1, 1, 1], [3, 3, 3, 3], [.int .i64, .int .i64, .int .i64, .int .i64], true⟩),
  (316, ⟨2, true, [.arr (.emp (.vecs 409 4)), .arr (.emp (.rows 309))], none, 0, none, [0, 1], [1, 1], [307, 112], [.sl 307, .sl 112], false⟩),
  (317, ⟨2, true, [.arr (.emp (.vecs 409 4)), .arr (.emp (.rows 309))], none, 0, none, [0, 1], [1, 1], [307, 112], [.sl 307, .sl 112], false⟩),
  (319, ⟨3, true, [.int .i64 0, .int .i64 0, .int .i64 0], none, 0, none, [0, 1, 2], [1, 1, 1], [3, 3, 3], [.int .i64, .int .i64, .int .i64], true⟩),
  (320, ⟨3, true, [.int .i64 0, .int .i64 0, .int .i64 0], none, 0, none, [0, 1, 2], [1, 1, 1], [3, 3, 3], [.int .i64, .int .i64, .int .i64], true⟩),
  (322, ⟨3, true, [.int .i64 0, .int .i64 0, .int .i64 0], none, 0, none, [0, 1, 2], [1, 1, 1], [3, 3, 3], [.int .i64, .int .i64, .int .i64], true⟩),
  (326, ⟨1, false, [.arr (.emp (.bools 4))], some (.bools 4), 1, none, [], [], [], [.sl 326], false⟩),
  (327, ⟨5, true, [.int .i64 0, .arr (.emp (.ints 3 .i64)), .arr (.emp (.ints 3 .i64)), .arr (.emp (.ints 3 .i64)), .int .i64 0], none, 0, none, [0, 1, 2], [1, 1, 3], [3, 24, 135], [.int .i64, .sl 24, .sl 24, .sl 24, .int .i64], false⟩),
  (328, ⟨5, true, [.int .i64 0, .arr (.emp (.ints 3 .i64)), .arr (.emp (.ints 3 .i64)), .arr (.emp (.ints 3 .i64)), .int .i64 0], none, 0, none, [0, 1, 2], [1, 1, 3], [3, 24, 135], [.int .i64, .sl 24, .sl 24, .sl 24, .int .i64], false⟩),
  (334, ⟨1, false, [.int .i64 0], none, 0, none, [], [], [], [.int .i64], false⟩),
  (341, ⟨1, false, [.int .u32 0], none, 0, none, [], [], [], [.int .u32], false⟩),
  (343, ⟨1, false, [.int .u64 0], none, 0, none, [], [], [], [.int .u64], false⟩),
  (354, ⟨3, true, [.int .i64 0, .int .i64 0, .int .i64 0], none, 0, none, [0, 1, 2], [1, 1, 1], [3, 3, 3], [.int .i64, .int .i64, .int .i64], true⟩),
  (367, ⟨3, true, [.int .i64 0, .int .i64 0, .arr (.emp (.ints 3 .i64))], none, 0, none, [0, 1, 2], [1, 1, 1], [3, 3, 24], [.int .i64, .int .i64, .sl 24], false⟩),
  (368, ⟨3, true, [.int .i64 0, .int .i64 0, .arr (.emp (.ints 3 .i64))], none, 0, none, [0, 1, 2], [1, 1, 1], [3, 3, 24], [.int .i64, .int .i64, .sl 24], false⟩),
  (376, ⟨1, false, [.arr (.emp (.rows 378))], some (.rows 378), 5, none, [], [], [], [.sl 376], false⟩),
  (377, ⟨5, true, [.int .i64 0, .arr (.emp (.ints 3 .i64)), .arr (.emp (.ints 3 .i64)), .arr (.emp (.ints 3 .i64)), .int .i64 0], none, 0, none, [0, 1, 2], [1, 1, 3], [3, 24, 135], [.int .i64, .sl 24, .sl 24, .sl 24, .int .i64], false⟩),
  (378, ⟨5, true, [.int .i64 0, .arr (.emp (.ints 3 .i64)), .arr (.emp (.ints 3 .i64)), .arr (.emp (.ints 3 .i64)), .int .i64 0], none, 0, none, [0, 1, 2], [1, 1, 3], [3, 24, 135], [.int .i64, .sl 24, .sl 24, .sl 24, .int .i64], false⟩),
  (380, ⟨1, false, [.arr (.emp (.rows 382))], some (.rows 382), 5, none, [], [], [], [.sl 380], false⟩),
  (381, ⟨5, true, [.int .i64 0, .arr (.emp (.ints 3 .i64)), .arr (.emp (.ints 3 .i64)), .arr (.emp (.ints 3 .i64)), .int .i64 0], none, 0, none, [0, 1, 2], [1, 1, 3], [3, 24, 135], [.int .i64, .sl 24, .sl 24, .sl 24, .int .i64], false⟩),
  (382, ⟨5, true, [.int .i64 0, .arr (.emp (.ints 3 .i64)), .arr (.emp (.ints 3 .i64)), .arr (.emp (.ints 3 .i64)), .int .i64 0], none, 0, none, [0, 1, 2], [1, 1, 3], [3, 24, 135], [.int .i64, .sl 24, .sl 24, .sl 24, .int .i64], false⟩),
  (385, ⟨1, false, [.int .u64 0], none, 0, none, [], [], [], [.int .u64], false⟩),
  (394, ⟨5, true, [.int .i64 0, .int .i64 0, .int .i64 0, .int .i64 0, .arr (.emp (.ints 3 .i64))], none, 0, none, [0, 1, 2, 3, 4], [1, 1, 1, 1, 1], [3, 3, 3, 3, 24], [.int .i64, .int .i64, .int .i64, .int .i64, .sl 24], false⟩),
  (395, ⟨5, true, [.int .i64 0, .int .i64 0, .int .i64 0, .int .i64 0, .arr (.emp (.ints 3 .i64))], none, 0, none, [0, 1, 2, 3, 4], [1, 1, 1, 1, 1], [3, 3, 3, 3, 24], [.int .i64, .int .i64, .int .i64, .int .i64, .sl 24], false⟩),
  (396, ⟨5, true, [.int .i64 0, .int .i64 0, .int .i64 0, .int .i64 0, .arr (.emp (.ints 3 .i64))], none, 0, none, [0, 1, 2, 3, 4], [1, 1, 1, 1, 1], [3, 3, 3, 3, 24], [.int .i64, .int .i64, .int .i64, .int .i64, .sl 24], false⟩),
  (398, ⟨3, true, [.int .i64 0, .int .i64 0, .int .i64 0], none, 0, none, [0, 1, 2], [1, 1, 1], [3, 3, 3], [.int .i64, .int .i64, .int .i64], true⟩),
  (399, ⟨3, true, [.int .i64 0, .int .i64 0, .int .i64 0], none, 0, none, [0, 1, 2], [1, 1, 1], [3, 3, 3], [.int .i64, .int .i64, .int .i64], true⟩),
  (401, ⟨3, true, [.int .i64 0, .int .i64 0, .int .i64 0], none, 0, none, [0, 1, 2], [1, 1, 1], [3, 3, 3], [.int .i64, .int .i64, .int .i64], true⟩),
  (405, ⟨3, true, [.int .i64 0, .int .i64 0, .arr (.emp (.ints 3 .i64))], none, 0, none, [0, 1, 2], [1, 1, 1], [3, 3, 24], [.int .i64, .int .i64, .sl 24], false⟩),
  (409, ⟨4, true, [.int .i64 0, .int .i64 0, .int .i64 0, .int .i64 0], none, 0, none, [0, 1, 2, 3], [1, 1, 1, 1], [3, 3, 3, 3], [.int .i64, .int .i64, .int .i64, .int .i64], true⟩),
  (423, ⟨1, false, [.int .u8 0], none, 0, none, [], [], [], [.int .u8], false⟩),
  (424, ⟨1, false, [.int .u8 0], none, 0, none, [], [], [], [.int .u8], false⟩),
  (427, ⟨1, false, [.int .i32 0], none, 0, none, [], [], [], [.int .i32], false⟩),
  (428, ⟨1, false, [.int .i32 0], none, 0, none, [], [], [], [.int .i32], false⟩)]
theorem mixed : Try.prog.follows .mixedOrders = true := by kernel_rfl
theorem cx_ok : PM.CxOk Try.prog cx := PM.cxChk_ok (by kernel_rfl)
theorem cx_read : PM.CxRead Try.prog cx := PM.cxRead_ok (by kernel_rfl)

theorem cx_at2 : PM.find cx 2 = some ⟨1, false, [.int .i64 0], none, 0, none, [], [], [], [.int .i64], false⟩ := by kernel_rfl
theorem cx_at3 : PM.find cx 3 = some ⟨1, false, [.int .i64 0], none, 0, none, [], [], [], [.int .i64], false⟩ := by kernel_rfl
theorem cx_at4 : PM.find cx 4 = some ⟨1, false, [.bool false], none, 0, none, [], [], [], [.bool], false⟩ := by kernel_rfl
theorem cx_at5 : PM.find cx 5 = some ⟨1, false, [.int .u8 0], none, 0, none, [], [], [], [.int .u8], false⟩ := by kernel_rfl
theorem cx_at6 : PM.find cx 6 = some ⟨1, false, [.int .u8 0], none, 0, none, [], [], [], [.int .u8], false⟩ := by kernel_rfl
theorem cx_at7 : PM.find cx 7 = some ⟨4, true, [.int .i64 0, .int .i64 0, .bool false, .int .u8 0], none, 0, none, [0, 1, 2, 3], [1, 1, 1, 1], [2, 3, 4, 6], [.int .i64, .int .i64, .bool, .int .u8], true⟩ := by kernel_rfl
theorem cx_at8 : PM.find cx 8 = some ⟨4, true, [.int .i64 0, .int .i64 0, .bool false, .int .u8 0], none, 0, none, [0, 1, 2, 3], [1, 1, 1, 1], [2, 3, 4, 6], [.int .i64, .int .i64, .bool, .int .u8], true⟩ := by kernel_rfl
theorem cx_at12 : PM.find cx 12 = some ⟨1, false, [.int .u64 0], none, 0, none, [], [], [], [.int .u64], false⟩ := by kernel_rfl
theorem cx_at21 : PM.find cx 21 = some ⟨1, false, [.int .i32 0], none, 0, none, [], [], [], [.int .i32], false⟩ := by kernel_rfl
theorem cx_at22 : PM.find cx 22 = some ⟨1, false, [.arr (.emp (.ints 5 .u8))], some (.ints 5 .u8), 1, none, [], [], [], [.sl 22], false⟩ := by kernel_rfl
theorem cx_at24 : PM.find cx 24 = some ⟨1, false, [.arr (.emp (.ints 3 .i64))], some (.ints 3 .i64), 1, none, [], [], [], [.sl 24], false⟩ := by kernel_rfl
theorem cx_at25 : PM.find cx 25 = some ⟨1, false, [.arr (.emp (.rows 33))], some (.rows 33), 3, none, [], [], [], [.sl 25], false⟩ := by kernel_rfl
theorem cx_at31 : PM.find cx 31 = some ⟨1, false, [.arr (.emp (.vecs 161 2))], some (.vecs 161 2), 2, none, [], [], [], [.sl 31], false⟩ := by kernel_rfl
theorem cx_at32 : PM.find cx 32 = some ⟨3, true, [.int .i64 0, .int .i64 0, .arr (.emp (.vecs 161 2))], none, 0, none, [0, 1, 2], [1, 1, 1], [3, 3, 31], [.int .i64, .int .i64, .sl 31], false⟩ := by kernel_rfl
theorem cx_at33 : PM.find cx 33 = some ⟨3, true, [.int .i64 0, .int .i64 0, .arr (.emp (.vecs 161 2))], none, 0, none, [0, 1, 2], [1, 1, 1], [3, 3, 31], [.int .i64, .int .i64, .sl 31], false⟩ := by kernel_rfl
theorem cx_at39 : PM.find cx 39 = some ⟨1, false, [.arr (.emp (.vecs 354 3))], some (.vecs 354 3), 3, none, [], [], [], [.sl 39], false⟩ := by kernel_rfl
theorem cx_at40 : PM.find cx 40 = some ⟨2, true, [.int .i64 0, .arr (.emp (.vecs 354 3))], none, 0, none, [0, 1], [1, 1], [3, 39], [.int .i64, .sl 39], false⟩ := by kernel_rfl
theorem cx_at41 : PM.find cx 41 = some ⟨2, true, [.int .i64 0, .arr (.emp (.vecs 354 3))], none, 0, none, [0, 1], [1, 1], [3, 39], [.int .i64, .sl 39], false⟩ := by kernel_rfl
theorem cx_at42 : PM.find cx 42 = some ⟨2, true, [.arr (.emp (.ints 3 .i64)), .int .i64 0], none, 0, none, [0, 1], [1, 1], [24, 3], [.sl 24, .int .i64], false⟩ := by kernel_rfl
theorem cx_at43 : PM.find cx 43 = some ⟨2, true, [.arr (.emp (.ints 3 .i64)), .int .i64 0], none, 0, none, [0, 1], [1, 1], [24, 3], [.sl 24, .int .i64], false⟩ := by kernel_rfl
theorem cx_at44 : PM.find cx 44 = some ⟨1, false, [.arr (.emp (.vecs 277 3))], some (.vecs 277 3), 3, none, [], [], [], [.sl 44], false⟩ := by kernel_rfl
theorem cx_at45 : PM.find cx 45 = some ⟨1, false, [.arr (.emp (.rows 272))], some (.rows 272), 40, none, [], [], [], [.sl 45], false⟩ := by kernel_rfl
theorem cx_at46 : PM.find cx 46 = some ⟨1, false, [.arr (.emp (.rows 195))], some (.rows 195), 3, none, [], [], [], [.sl 46], false⟩ := by kernel_rfl
theorem cx_at47 : PM.find cx 47 = some ⟨9, true, [.int .i64 0, .int .i64 0, .int .i64 0, .arr (.emp (.vecs 354 3)), .arr (.emp (.ints 3 .i64)), .int .i64 0, .arr (.emp (.vecs 277 3)), .arr (.emp (.rows 272)), .arr (.emp (.rows 195))], none, 0, none, [0, 1, 2, 4, 6, 7, 8], [1, 1, 2, 2, 1, 1, 1], [3, 3, 41, 43, 44, 45, 46], [.int .i64, .int .i64, .int .i64, .sl 39, .sl 24, .int .i64, .sl 44, .sl 45, .sl 46], false⟩ := by kernel_rfl
theorem cx_at48 : PM.find cx 48 = some ⟨9, true, [.int .i64 0, .int .i64 0, .int .i64 0, .arr (.emp (.vecs 354 3)), .arr (.emp (.ints 3 .i64)), .int .i64 0, .arr (.emp (.vecs 277 3)), .arr (.emp (.rows 272)), .arr (.emp (.rows 195))], none, 0, none, [0, 1, 2, 4, 6, 7, 8], [1, 1, 2, 2, 1, 1, 1], [3, 3, 41, 43, 44, 45, 46], [.int .i64, .int .i64, .int .i64, .sl 39, .sl 24, .int .i64, .sl 44, .sl 45, .sl 46], false⟩ := by kernel_rfl
theorem cx_at51 : PM.find cx 51 = some ⟨1, false, [.arr (.emp (.vecs 287 3))], some (.vecs 287 3), 3, none, [], [], [], [.sl 51], false⟩ := by kernel_rfl
theorem cx_at52 : PM.find cx 52 = some ⟨2, true, [.int .i64 0, .arr (.emp (.vecs 287 3))], none, 0, none, [0, 1], [1, 1], [3, 51], [.int .i64, .sl 51], false⟩ := by kernel_rfl
theorem cx_at53 : PM.find cx 53 = some ⟨2, true, [.int .i64 0, .arr (.emp (.vecs 287 3))], none, 0, none, [0, 1], [1, 1], [3, 51], [.int .i64, .sl 51], false⟩ := by kernel_rfl
theorem cx_at54 : PM.find cx 54 = some ⟨2, true, [.arr (.emp (.ints 3 .i64)), .int .i64 0], none, 0, none, [0, 1], [1, 1], [24, 3], [.sl 24, .int .i64], false⟩ := by kernel_rfl
theorem cx_at55 : PM.find cx 55 = some ⟨1, false, [.arr (.emp (.vecs 275 3))], some (.vecs 275 3), 3, none, [], [], [], [.sl 55], false⟩ := by kernel_rfl
theorem cx_at56 : PM.find cx 56 = some ⟨1, false, [.arr (.emp (.rows 175))], some (.rows 175), 40, none, [], [], [], [.sl 56], false⟩ := by kernel_rfl
theorem cx_at57 : PM.find cx 57 = some ⟨9, true, [.int .i64 0, .int .i64 0, .int .i64 0, .arr (.emp (.vecs 287 3)), .arr (.emp (.ints 3 .i64)), .int .i64 0, .arr (.emp (.vecs 275 3)), .arr (.emp (.rows 175)), .arr (.emp (.rows 33))], none, 0, none, [0, 1, 2, 4, 6, 7, 8], [1, 1, 2, 2, 1, 1, 1], [3, 3, 53, 54, 55, 56, 25], [.int .i64, .int .i64, .int .i64, .sl 51, .sl 24, .int .i64, .sl 55, .sl 56, .sl 25], false⟩ := by kernel_rfl
theorem cx_at58 : PM.find cx 58 = some ⟨9, true, [.int .i64 0, .int .i64 0, .int .i64 0, .arr (.emp (.vecs 287 3)), .arr (.emp (.ints 3 .i64)), .int .i64 0, .arr (.emp (.vecs 275 3)), .arr (.emp (.rows 175)), .arr (.emp (.rows 33))], none, 0, none, [0, 1, 2, 4, 6, 7, 8], [1, 1, 2, 2, 1, 1, 1], [3, 3, 53, 54, 55, 56, 25], [.int .i64, .int .i64, .int .i64, .sl 51, .sl 24, .int .i64, .sl 55, .sl 56, .sl 25], false⟩ := by kernel_rfl
theorem cx_at62 : PM.find cx 62 = some ⟨1, false, [.arr (.emp (.rows 285))], some (.rows 285), 18, none, [], [], [], [.sl 62], false⟩ := by kernel_rfl
theorem cx_at63 : PM.find cx 63 = some ⟨4, true, [.int .i64 0, .arr (.emp (.vecs 354 3)), .arr (.emp (.rows 285)), .arr (.emp (.rows 195))], none, 0, none, [0, 2, 3], [2, 1, 1], [41, 62, 46], [.int .i64, .sl 39, .sl 62, .sl 46], false⟩ := by kernel_rfl
theorem cx_at64 : PM.find cx 64 = some ⟨4, true, [.int .i64 0, .arr (.emp (.vecs 354 3)), .arr (.emp (.rows 285)), .arr (.emp (.rows 195))], none, 0, none, [0, 2, 3], [2, 1, 1], [41, 62, 46], [.int .i64, .sl 39, .sl 62, .sl 46], false⟩ := by kernel_rfl
theorem cx_at68 : PM.find cx 68 = some ⟨1, false, [.arr (.emp (.rows 189))], some (.rows 189), 18, none, [], [], [], [.sl 68], false⟩ := by kernel_rfl
theorem cx_at69 : PM.find cx 69 = some ⟨4, true, [.int .i64 0, .arr (.emp (.vecs 287 3)), .arr (.emp (.rows 189)), .arr (.emp (.rows 33))], none, 0, none, [0, 2, 3], [2, 1, 1], [53, 68, 25], [.int .i64, .sl 51, .sl 68, .sl 25], false⟩ := by kernel_rfl
theorem cx_at70 : PM.find cx 70 = some ⟨4, true, [.int .i64 0, .arr (.emp (.vecs 287 3)), .arr (.emp (.rows 189)), .arr (.emp (.rows 33))], none, 0, none, [0, 2, 3], [2, 1, 1], [53, 68, 25], [.int .i64, .sl 51, .sl 68, .sl 25], false⟩ := by kernel_rfl
theorem cx_at78 : PM.find cx 78 = some ⟨1, false, [.arr (.emp (.rows 203))], some (.rows 203), 2, none, [], [], [], [.sl 78], false⟩ := by kernel_rfl
theorem cx_at81 : PM.find cx 81 = some ⟨1, false, [.arr (.emp (.rows 205))], some (.rows 205), 2, none, [], [], [], [.sl 81], false⟩ := by kernel_rfl
theorem cx_at90 : PM.find cx 90 = some ⟨1, false, [.arr (.emp (.vecs 297 2))], some (.vecs 297 2), 2, none, [], [], [], [.sl 90], false⟩ := by kernel_rfl
theorem cx_at91 : PM.find cx 91 = some ⟨1, false, [.arr (.emp (.vecs 299 3))], some (.vecs 299 3), 3, none, [], [], [], [.sl 91], false⟩ := by kernel_rfl
theorem cx_at92 : PM.find cx 92 = some ⟨1, false, [.arr (.emp (.rows 295))], some (.rows 295), 15, none, [], [], [], [.sl 92], false⟩ := by kernel_rfl
theorem cx_at93 : PM.find cx 93 = some ⟨10, true, [.int .i64 0, .int .i64 0, .int .i64 0, .bool false, .arr (.emp (.ints 3 .i64)), .arr (.emp (.vecs 297 2)), .arr (.emp (.vecs 299 3)), .arr (.emp (.ints 3 .i64)), .arr (.emp (.vecs 297 2)), .arr (.emp (.rows 295))], none, 0, none, [0, 1, 2, 3, 4, 5, 6, 7, 8, 9], [1, 1, 1, 1, 1, 1, 1, 1, 1, 1], [3, 3, 3, 4, 24, 90, 91, 24, 90, 92], [.int .i64, .int .i64, .int .i64, .bool, .sl 24, .sl 90, .sl 91, .sl 24, .sl 90, .sl 92], false⟩ := by kernel_rfl
theorem cx_at94 : PM.find cx 94 = some ⟨10, true, [.int .i64 0, .int .i64 0, .int .i64 0, .bool false, .arr (.emp (.ints 3 .i64)), .arr (.emp (.vecs 297 2)), .arr (.emp (.vecs 299 3)), .arr (.emp (.ints 3 .i64)), .arr (.emp (.vecs 297 2)), .arr (.emp (.rows 295))], none, 0, none, [0, 1, 2, 3, 4, 5, 6, 7, 8, 9], [1, 1, 1, 1, 1, 1, 1, 1, 1, 1], [3, 3, 3, 4, 24, 90, 91, 24, 90, 92], [.int .i64, .int .i64, .int .i64, .bool, .sl 24, .sl 90, .sl 91, .sl 24, .sl 90, .sl 92], false⟩ := by kernel_rfl
theorem cx_at97 : PM.find cx 97 = some ⟨1, false, [.arr (.emp (.vecs 225 3))], some (.vecs 225 3), 3, none, [], [], [], [.sl 97], false⟩ := by kernel_rfl
theorem cx_at98 : PM.find cx 98 = some ⟨1, false, [.arr (.emp (.rows 214))], some (.rows 214), 15, none, [], [], [], [.sl 98], false⟩ := by kernel_rfl
theorem cx_at99 : PM.find cx 99 = some ⟨10, true, [.int .i64 0, .int .i64 0, .int .i64 0, .bool false, .arr (.emp (.ints 3 .i64)), .arr (.emp (.vecs 161 2)), .arr (.emp (.vecs 225 3)), .arr (.emp (.ints 3 .i64)), .arr (.emp (.vecs 161 2)), .arr (.emp (.rows 214))], none, 0, none, [0, 1, 2, 3, 4, 5, 6, 7, 8, 9], [1, 1, 1, 1, 1, 1, 1, 1, 1, 1], [3, 3, 3, 4, 24, 31, 97, 24, 31, 98], [.int .i64, .int .i64, .int .i64, .bool, .sl 24, .sl 31, .sl 97, .sl 24, .sl 31, .sl 98], false⟩ := by kernel_rfl
theorem cx_at100 : PM.find cx 100 = some ⟨10, true, [.int .i64 0, .int .i64 0, .int .i64 0, .bool false, .arr (.emp (.ints 3 .i64)), .arr (.emp (.vecs 161 2)), .arr (.emp (.vecs 225 3)), .arr (.emp (.ints 3 .i64)), .arr (.emp (.vecs 161 2)), .arr (.emp (.rows 214))], none, 0, none, [0, 1, 2, 3, 4, 5, 6, 7, 8, 9], [1, 1, 1, 1, 1, 1, 1, 1, 1, 1], [3, 3, 3, 4, 24, 31, 97, 24, 31, 98], [.int .i64, .int .i64, .int .i64, .bool, .sl 24, .sl 31, .sl 97, .sl 24, .sl 31, .sl 98], false⟩ := by kernel_rfl
theorem cx_at112 : PM.find cx 112 = some ⟨1, false, [.arr (.emp (.rows 309))], some (.rows 309), 1, none, [], [], [], [.sl 112], false⟩ := by kernel_rfl
theorem cx_at113 : PM.find cx 113 = some ⟨5, true, [.arr (.emp (.ints 3 .i64)), .arr (.emp (.ints 3 .i64)), .arr (.emp (.vecs 297 2)), .arr (.emp (.rows 309)), .arr (.emp (.ints 3 .i64))], none, 0, none, [0, 1, 2, 3, 4], [1, 1, 1, 1, 1], [24, 24, 90, 112, 24], [.sl 24, .sl 24, .sl 90, .sl 112, .sl 24], false⟩ := by kernel_rfl
theorem cx_at114 : PM.find cx 114 = some ⟨5, true, [.arr (.emp (.ints 3 .i64)), .arr (.emp (.ints 3 .i64)), .arr (.emp (.vecs 297 2)), .arr (.emp (.rows 309)), .arr (.emp (.ints 3 .i64))], none, 0, none, [0, 1, 2, 3, 4], [1, 1, 1, 1, 1], [24, 24, 90, 112, 24], [.sl 24, .sl 24, .sl 90, .sl 112, .sl 24], false⟩ := by kernel_rfl
theorem cx_at117 : PM.find cx 117 = some ⟨1, false, [.arr (.emp (.rows 233))], some (.rows 233), 1, none, [], [], [], [.sl 117], false⟩ := by kernel_rfl
theorem cx_at118 : PM.find cx 118 = some ⟨5, true, [.arr (.emp (.ints 3 .i64)), .arr (.emp (.ints 3 .i64)), .arr (.emp (.vecs 161 2)), .arr (.emp (.rows 233)), .arr (.emp (.ints 3 .i64))], none, 0, none, [0, 1, 2, 3, 4], [1, 1, 1, 1, 1], [24, 24, 31, 117, 24], [.sl 24, .sl 24, .sl 31, .sl 117, .sl 24], false⟩ := by kernel_rfl
theorem cx_at119 : PM.find cx 119 = some ⟨5, true, [.arr (.emp (.ints 3 .i64)), .arr (.emp (.ints 3 .i64)), .arr (.emp (.vecs 161 2)), .arr (.emp (.rows 233)), .arr (.emp (.ints 3 .i64))], none, 0, none, [0, 1, 2, 3, 4], [1, 1, 1, 1, 1], [24, 24, 31, 117, 24], [.sl 24, .sl 24, .sl 31, .sl 117, .sl 24], false⟩ := by kernel_rfl
theorem cx_at127 : PM.find cx 127 = some ⟨3, true, [.arr (.emp (.ints 3 .i64)), .arr (.emp (.ints 3 .i64)), .int .i64 0], none, 0, none, [0, 1, 2], [1, 1, 1], [24, 24, 3], [.sl 24, .sl 24, .int .i64], false⟩ := by kernel_rfl
theorem cx_at128 : PM.find cx 128 = some ⟨3, true, [.arr (.emp (.ints 3 .i64)), .arr (.emp (.ints 3 .i64)), .int .i64 0], none, 0, none, [0, 1, 2], [1, 1, 1], [24, 24, 3], [.sl 24, .sl 24, .int .i64], false⟩ := by kernel_rfl
theorem cx_at129 : PM.find cx 129 = some ⟨1, false, [.arr (.emp (.rows 317))], some (.rows 317), 2, none, [], [], [], [.sl 129], false⟩ := by kernel_rfl
theorem cx_at130 : PM.find cx 130 = some ⟨1, false, [.arr (.emp (.vecs 322 3))], some (.vecs 322 3), 3, none, [], [], [], [.sl 130], false⟩ := by kernel_rfl
theorem cx_at131 : PM.find cx 131 = some ⟨5, true, [.arr (.emp (.ints 3 .i64)), .arr (.emp (.ints 3 .i64)), .int .i64 0, .arr (.emp (.rows 317)), .arr (.emp (.vecs 322 3))], none, 0, none, [0, 3, 4], [3, 1, 1], [128, 129, 130], [.sl 24, .sl 24, .int .i64, .sl 129, .sl 130], false⟩ := by kernel_rfl
theorem cx_at132 : PM.find cx 132 = some ⟨5, true, [.arr (.emp (.ints 3 .i64)), .arr (.emp (.ints 3 .i64)), .int .i64 0, .arr (.emp (.rows 317)), .arr (.emp (.vecs 322 3))], none, 0, none, [0, 3, 4], [3, 1, 1], [128, 129, 130], [.sl 24, .sl 24, .int .i64, .sl 129, .sl 130], false⟩ := by kernel_rfl
theorem cx_at135 : PM.find cx 135 = some ⟨3, true, [.arr (.emp (.ints 3 .i64)), .arr (.emp (.ints 3 .i64)), .int .i64 0], none, 0, none, [0, 1, 2], [1, 1, 1], [24, 24, 3], [.sl 24, .sl 24, .int .i64], false⟩ := by kernel_rfl
theorem cx_at136 : PM.find cx 136 = some ⟨1, false, [.arr (.emp (.rows 242))], some (.rows 242), 2, none, [], [], [], [.sl 136], false⟩ := by kernel_rfl
theorem cx_at137 : PM.find cx 137 = some ⟨1, false, [.arr (.emp (.vecs 320 3))], some (.vecs 320 3), 3, none, [], [], [], [.sl 137], false⟩ := by kernel_rfl
theorem cx_at138 : PM.find cx 138 = some ⟨5, true, [.arr (.emp (.ints 3 .i64)), .arr (.emp (.ints 3 .i64)), .int .i64 0, .arr (.emp (.rows 242)), .arr (.emp (.vecs 320 3))], none, 0, none, [0, 3, 4], [3, 1, 1], [135, 136, 137], [.sl 24, .sl 24, .int .i64, .sl 136, .sl 137], false⟩ := by kernel_rfl
theorem cx_at139 : PM.find cx 139 = some ⟨5, true, [.arr (.emp (.ints 3 .i64)), .arr (.emp (.ints 3 .i64)), .int .i64 0, .arr (.emp (.rows 242)), .arr (.emp (.vecs 320 3))], none, 0, none, [0, 3, 4], [3, 1, 1], [135, 136, 137], [.sl 24, .sl 24, .int .i64, .sl 136, .sl 137], false⟩ := by kernel_rfl
theorem cx_at160 : PM.find cx 160 = some ⟨2, true, [.int .i64 0, .int .i64 0], none, 0, none, [0, 1], [1, 1], [3, 3], [.int .i64, .int .i64], true⟩ := by kernel_rfl
theorem cx_at161 : PM.find cx 161 = some ⟨2, true, [.int .i64 0, .int .i64 0], none, 0, none, [0, 1], [1, 1], [3, 3], [.int .i64, .int .i64], true⟩ := by kernel_rfl
theorem cx_at168 : PM.find cx 168 = some ⟨1, false, [.arr (.emp (.rows 396))], some (.rows 396), 5, none, [], [], [], [.sl 168], false⟩ := by kernel_rfl
theorem cx_at169 : PM.find cx 169 = some ⟨1, false, [.arr (.emp (.vecs 399 3))], some (.vecs 399 3), 3, none, [], [], [], [.sl 169], false⟩ := by kernel_rfl
theorem cx_at170 : PM.find cx 170 = some ⟨4, true, [.int .i64 0, .int .i64 0, .int .i64 0, .int .i64 0], none, 0, none, [0, 1, 2, 3], [1, 1, 1, 1], [3, 3, 3, 3], [.int .i64, .int .i64, .int .i64, .int .i64], true⟩ := by kernel_rfl
theorem cx_at171 : PM.find cx 171 = some ⟨4, true, [.int .i64 0, .int .i64 0, .int .i64 0, .int .i64 0], none, 0, none, [0, 1, 2, 3], [1, 1, 1, 1], [3, 3, 3, 3], [.int .i64, .int .i64, .int .i64, .int .i64], true⟩ := by kernel_rfl
theorem cx_at172 : PM.find cx 172 = some ⟨7, true, [.int .i64 0, .int .i64 0, .int .i64 0, .int .i64 0, .int .i64 0, .arr (.emp (.vecs 161 2)), .arr (.emp (.ints 3 .i64))], none, 0, none, [0, 1, 2, 3, 4, 5, 6], [1, 1, 1, 1, 1, 1, 1], [3, 3, 3, 3, 3, 31, 24], [.int .i64, .int .i64, .int .i64, .int .i64, .int .i64, .sl 31, .sl 24], false⟩ := by kernel_rfl
theorem cx_at173 : PM.find cx 173 = some ⟨7, true, [.int .i64 0, .int .i64 0, .int .i64 0, .int .i64 0, .int .i64 0, .arr (.emp (.vecs 161 2)), .arr (.emp (.ints 3 .i64))], none, 0, none, [0, 1, 2, 3, 4, 5, 6], [1, 1, 1, 1, 1, 1, 1], [3, 3, 3, 3, 3, 31, 24], [.int .i64, .int .i64, .int .i64, .int .i64, .int .i64, .sl 31, .sl 24], false⟩ := by kernel_rfl
theorem cx_at174 : PM.find cx 174 = some ⟨40, true, [.int .i64 0, .int .i64 0, .int .i64 0, .int .i64 0, .int .i64 0, .int .i64 0, .int .i64 0, .int .i64 0, .int .i64 0, .int .i64 0, .int .i64 0, .bool false, .arr (.emp (.ints 3 .i64)), .arr (.emp (.vecs 161 2)), .arr (.emp (.vecs 161 2)), .arr (.emp (.rows 396)), .arr (.emp (.vecs 399 3)), .arr (.emp (.ints 3 .i64)), .bool false, .int .i64 0, .int .i64 0, .int .i64 0, .int .i64 0, .int .i64 0, .int .i64 0, .int .i64 0, .int .i64 0, .int .i64 0, .arr (.emp (.vecs 161 2)), .arr (.emp (.ints 3 .i64)), .int .i64 0, .int .i64 0, .int .i64 0, .bool false, .arr (.emp (.ints 3 .i64)), .arr (.emp (.vecs 161 2)), .arr (.emp (.vecs 225 3)), .arr (.emp (.ints 3 .i64)), .arr (.emp (.vecs 161 2)), .arr (.emp (.rows 214))], none, 0, none, [0, 1, 2, 3, 4, 5, 6, 7, 8, 9, 10, 11, 12, 13, 14, 15, 16, 17, 18, 19, 23, 30], [1, 1, 1, 1, 1, 1, 1, 1, 1, 1, 1, 1, 1, 1, 1, 1, 1, 1, 1, 4, 7, 10], [3, 3, 3, 3, 3, 3, 3, 3, 3, 3, 3, 4, 24, 31, 31, 168, 169, 24, 4, 171, 173, 100], [.int .i64, .int .i64, .int .i64, .int .i64, .int .i64, .int .i64, .int .i64, .int .i64, .int .i64, .int .i64, .int .i64, .bool, .sl 24, .sl 31, .sl 31, .sl 168, .sl 169, .sl 24, .bool, .int .i64, .int .i64, .int .i64, .int .i64, .int .i64, .int .i64, .int .i64, .int .i64, .int .i64, .sl 31, .sl 24, .int .i64, .int .i64, .int .i64, .bool, .sl 24, .sl 31, .sl 97, .sl 24, .sl 31, .sl 98], false⟩ := by kernel_rfl
theorem cx_at175 : PM.find cx 175 = some ⟨40, true, [.int .i64 0, .int .i64 0, .int .i64 0, .int .i64 0, .int .i64 0, .int .i64 0, .int .i64 0, .int .i64 0, .int .i64 0, .int .i64 0, .int .i64 0, .bool false, .arr (.emp (.ints 3 .i64)), .arr (.emp (.vecs 161 2)), .arr (.emp (.vecs 161 2)), .arr (.emp (.rows 396)), .arr (.emp (.vecs 399 3)), .arr (.emp (.ints 3 .i64)), .bool false, .int .i64 0, .int .i64 0, .int .i64 0, .int .i64 0, .int .i64 0, .int .i64 0, .int .i64 0, .int .i64 0, .int .i64 0, .arr (.emp (.vecs 161 2)), .arr (.emp (.ints 3 .i64)), .int .i64 0, .int .i64 0, .int .i64 0, .bool false, .arr (.emp (.ints 3 .i64)), .arr (.emp (.vecs 161 2)), .arr (.emp (.vecs 225 3)), .arr (.emp (.ints 3 .i64)), .arr (.emp (.vecs 161 2)), .arr (.emp (.rows 214))], none, 0, none, [0, 1, 2, 3, 4, 5, 6, 7, 8, 9, 10, 11, 12, 13, 14, 15, 16, 17, 18, 19, 23, 30], [1, 1, 1, 1, 1, 1, 1, 1, 1, 1, 1, 1, 1, 1, 1, 1, 1, 1, 1, 4, 7, 10], [3, 3, 3, 3, 3, 3, 3, 3, 3, 3, 3, 4, 24, 31, 31, 168, 169, 24, 4, 171, 173, 100], [.int .i64, .int .i64, .int .i64, .int .i64, .int .i64, .int .i64, .int .i64, .int .i64, .int .i64, .int .i64, .int .i64, .bool, .sl 24, .sl 31, .sl 31, .sl 168, .sl 169, .sl 24, .bool, .int .i64, .int .i64, .int .i64, .int .i64, .int .i64, .int .i64, .int .i64, .int .i64, .int .i64, .sl 31, .sl 24, .int .i64, .int .i64, .int .i64, .bool, .sl 24, .sl 31, .sl 97, .sl 24, .sl 31, .sl 98], false⟩ := by kernel_rfl
theorem cx_at188 : PM.find cx 188 = some ⟨18, true, [.int .i64 0, .int .i64 0, .int .i64 0, .int .i64 0, .int .i64 0, .arr (.emp (.vecs 161 2)), .bool false, .int .i64 0, .int .i64 0, .int .i64 0, .int .i64 0, .int .i64 0, .int .i64 0, .int .i64 0, .int .i64 0, .int .i64 0, .arr (.emp (.vecs 161 2)), .arr (.emp (.ints 3 .i64))], none, 0, none, [0, 1, 2, 3, 4, 5, 6, 7, 11], [1, 1, 1, 1, 1, 1, 1, 4, 7], [3, 3, 3, 3, 3, 31, 4, 171, 173], [.int .i64, .int .i64, .int .i64, .int .i64, .int .i64, .sl 31, .bool, .int .i64, .int .i64, .int .i64, .int .i64, .int .i64, .int .i64, .int .i64, .int .i64, .int .i64, .sl 31, .sl 24], false⟩ := by kernel_rfl
theorem cx_at189 : PM.find cx 189 = some ⟨18, true, [.int .i64 0, .int .i64 0, .int .i64 0, .int .i64 0, .int .i64 0, .arr (.emp (.vecs 161 2)), .bool false, .int .i64 0, .int .i64 0, .int .i64 0, .int .i64 0, .int .i64 0, .int .i64 0, .int .i64 0, .int .i64 0, .int .i64 0, .arr (.emp (.vecs 161 2)), .arr (.emp (.ints 3 .i64))], none, 0, none, [0, 1, 2, 3, 4, 5, 6, 7, 11], [1, 1, 1, 1, 1, 1, 1, 4, 7], [3, 3, 3, 3, 3, 31, 4, 171, 173], [.int .i64, .int .i64, .int .i64, .int .i64, .int .i64, .sl 31, .bool, .int .i64, .int .i64, .int .i64, .int .i64, .int .i64, .int .i64, .int .i64, .int .i64, .int .i64, .sl 31, .sl 24], false⟩ := by kernel_rfl
theorem cx_at194 : PM.find cx 194 = some ⟨3, true, [.int .i64 0, .int .i64 0, .arr (.emp (.vecs 297 2))], none, 0, none, [0, 1, 2], [1, 1, 1], [3, 3, 90], [.int .i64, .int .i64, .sl 90], false⟩ := by kernel_rfl
theorem cx_at195 : PM.find cx 195 = some ⟨3, true, [.int .i64 0, .int .i64 0, .arr (.emp (.vecs 297 2))], none, 0, none, [0, 1, 2], [1, 1, 1], [3, 3, 90], [.int .i64, .int .i64, .sl 90], false⟩ := by kernel_rfl
theorem cx_at202 : PM.find cx 202 = some ⟨2, true, [.arr (.emp (.ints 3 .i64)), .arr (.emp (.vecs 297 2))], none, 0, none, [0, 1], [1, 1], [24, 90], [.sl 24, .sl 90], false⟩ := by kernel_rfl
theorem cx_at203 : PM.find cx 203 = some ⟨2, true, [.arr (.emp (.ints 3 .i64)), .arr (.emp (.vecs 297 2))], none, 0, none, [0, 1], [1, 1], [24, 90], [.sl 24, .sl 90], false⟩ := by kernel_rfl
theorem cx_at204 : PM.find cx 204 = some ⟨2, true, [.arr (.emp (.ints 3 .i64)), .arr (.emp (.vecs 161 2))], none, 0, none, [0, 1], [1, 1], [24, 31], [.sl 24, .sl 31], false⟩ := by kernel_rfl
theorem cx_at205 : PM.find cx 205 = some ⟨2, true, [.arr (.emp (.ints 3 .i64)), .arr (.emp (.vecs 161 2))], none, 0, none, [0, 1], [1, 1], [24, 31], [.sl 24, .sl 31], false⟩ := by kernel_rfl
theorem cx_at212 : PM.find cx 212 = some ⟨1, false, [.arr (.emp (.rows 368))], some (.rows 368), 3, none, [], [], [], [.sl 212], false⟩ := by kernel_rfl
theorem cx_at213 : PM.find cx 213 = some ⟨15, true, [.int .i64 0, .int .i64 0, .int .i64 0, .int .i64 0, .int .i64 0, .int .i64 0, .arr (.emp (.ints 3 .i64)), .arr (.emp (.vecs 225 3)), .arr (.emp (.vecs 161 2)), .arr (.emp (.rows 368)), .bool false, .int .i64 0, .int .i64 0, .int .i64 0, .int .i64 0], none, 0, none, [0, 1, 2, 3, 4, 5, 6, 7, 8, 9, 10, 11], [1, 1, 1, 1, 1, 1, 1, 1, 1, 1, 1, 4], [3, 3, 3, 3, 3, 3, 24, 97, 31, 212, 4, 171], [.int .i64, .int .i64, .int .i64, .int .i64, .int .i64, .int .i64, .sl 24, .sl 97, .sl 31, .sl 212, .bool, .int .i64, .int .i64, .int .i64, .int .i64], false⟩ := by kernel_rfl
theorem cx_at214 : PM.find cx 214 = some ⟨15, true, [.int .i64 0, .int .i64 0, .int .i64 0, .int .i64 0, .int .i64 0, .int .i64 0, .arr (.emp (.ints 3 .i64)), .arr (.emp (.vecs 225 3)), .arr (.emp (.vecs 161 2)), .arr (.emp (.rows 368)), .bool false, .int .i64 0, .int .i64 0, .int .i64 0, .int .i64 0], none, 0, none, [0, 1, 2, 3, 4, 5, 6, 7, 8, 9, 10, 11], [1, 1, 1, 1, 1, 1, 1, 1, 1, 1, 1, 4], [3, 3, 3, 3, 3, 3, 24, 97, 31, 212, 4, 171], [.int .i64, .int .i64, .int .i64, .int .i64, .int .i64, .int .i64, .sl 24, .sl 97, .sl 31, .sl 212, .bool, .int .i64, .int .i64, .int .i64, .int .i64], false⟩ := by kernel_rfl
theorem cx_at224 : PM.find cx 224 = some ⟨3, true, [.int .i64 0, .int .i64 0, .int .i64 0], none, 0, none, [0, 1, 2], [1, 1, 1], [3, 3, 3], [.int .i64, .int .i64, .int .i64], true⟩ := by kernel_rfl
theorem cx_at225 : PM.find cx 225 = some ⟨3, true, [.int .i64 0, .int .i64 0, .int .i64 0], none, 0, none, [0, 1, 2], [1, 1, 1], [3, 3, 3], [.int .i64, .int .i64, .int .i64], true⟩ := by kernel_rfl
theorem cx_at231 : PM.find cx 231 = some ⟨1, false, [.arr (.emp (.vecs 312 4))], some (.vecs 312 4), 4, none, [], [], [], [.sl 231], false⟩ := by kernel_rfl
theorem cx_at232 : PM.find cx 232 = some ⟨1, true, [.arr (.emp (.vecs 312 4))], none, 0, none, [0], [1], [231], [.sl 231], false⟩ := by kernel_rfl
theorem cx_at233 : PM.find cx 233 = some ⟨1, true, [.arr (.emp (.vecs 312 4))], none, 0, none, [0], [1], [231], [.sl 231], false⟩ := by kernel_rfl
theorem cx_at241 : PM.find cx 241 = some ⟨2, true, [.arr (.emp (.vecs 312 4)), .arr (.emp (.rows 233))], none, 0, none, [0, 1], [1, 1], [231, 117], [.sl 231, .sl 117], false⟩ := by kernel_rfl
theorem cx_at242 : PM.find cx 242 = some ⟨2, true, [.arr (.emp (.vecs 312 4)), .arr (.emp (.rows 233))], none, 0, none, [0, 1], [1, 1], [231, 117], [.sl 231, .sl 117], false⟩ := by kernel_rfl
theorem cx_at256 : PM.find cx 256 = some ⟨3, true, [.arr (.emp (.ints 5 .u8)), .int .i64 0, .int .i64 0], none, 0, none, [0, 1, 2], [1, 1, 1], [22, 3, 3], [.sl 22, .int .i64, .int .i64], false⟩ := by kernel_rfl
theorem cx_at257 : PM.find cx 257 = some ⟨3, true, [.arr (.emp (.ints 5 .u8)), .int .i64 0, .int .i64 0], none, 0, none, [0, 1, 2], [1, 1, 1], [22, 3, 3], [.sl 22, .int .i64, .int .i64], false⟩ := by kernel_rfl
theorem cx_at262 : PM.find cx 262 = some ⟨1, false, [.int .u64 0], none, 0, none, [], [], [], [.int .u64], false⟩ := by kernel_rfl
theorem cx_at266 : PM.find cx 266 = some ⟨1, false, [.arr (.emp (.rows 395))], some (.rows 395), 5, none, [], [], [], [.sl 266], false⟩ := by kernel_rfl
theorem cx_at267 : PM.find cx 267 = some ⟨1, false, [.arr (.emp (.vecs 401 3))], some (.vecs 401 3), 3, none, [], [], [], [.sl 267], false⟩ := by kernel_rfl
theorem cx_at268 : PM.find cx 268 = some ⟨4, true, [.int .i64 0, .int .i64 0, .int .i64 0, .int .i64 0], none, 0, none, [0, 1, 2, 3], [1, 1, 1, 1], [3, 3, 3, 3], [.int .i64, .int .i64, .int .i64, .int .i64], true⟩ := by kernel_rfl
theorem cx_at269 : PM.find cx 269 = some ⟨7, true, [.int .i64 0, .int .i64 0, .int .i64 0, .int .i64 0, .int .i64 0, .arr (.emp (.vecs 297 2)), .arr (.emp (.ints 3 .i64))], none, 0, none, [0, 1, 2, 3, 4, 5, 6], [1, 1, 1, 1, 1, 1, 1], [3, 3, 3, 3, 3, 90, 24], [.int .i64, .int .i64, .int .i64, .int .i64, .int .i64, .sl 90, .sl 24], false⟩ := by kernel_rfl
theorem cx_at270 : PM.find cx 270 = some ⟨7, true, [.int .i64 0, .int .i64 0, .int .i64 0, .int .i64 0, .int .i64 0, .arr (.emp (.vecs 297 2)), .arr (.emp (.ints 3 .i64))], none, 0, none, [0, 1, 2, 3, 4, 5, 6], [1, 1, 1, 1, 1, 1, 1], [3, 3, 3, 3, 3, 90, 24], [.int .i64, .int .i64, .int .i64, .int .i64, .int .i64, .sl 90, .sl 24], false⟩ := by kernel_rfl
theorem cx_at271 : PM.find cx 271 = some ⟨40, true, [.int .i64 0, .int .i64 0, .int .i64 0, .int .i64 0, .int .i64 0, .int .i64 0, .int .i64 0, .int .i64 0, .int .i64 0, .int .i64 0, .int .i64 0, .bool false, .arr (.emp (.ints 3 .i64)), .arr (.emp (.vecs 297 2)), .arr (.emp (.vecs 297 2)), .arr (.emp (.rows 395)), .arr (.emp (.vecs 401 3)), .arr (.emp (.ints 3 .i64)), .bool false, .int .i64 0, .int .i64 0, .int .i64 0, .int .i64 0, .int .i64 0, .int .i64 0, .int .i64 0, .int .i64 0, .int .i64 0, .arr (.emp (.vecs 297 2)), .arr (.emp (.ints 3 .i64)), .int .i64 0, .int .i64 0, .int .i64 0, .bool false, .arr (.emp (.ints 3 .i64)), .arr (.emp (.vecs 297 2)), .arr (.emp (.vecs 299 3)), .arr (.emp (.ints 3 .i64)), .arr (.emp (.vecs 297 2)), .arr (.emp (.rows 295))], none, 0, none, [0, 1, 2, 3, 4, 5, 6, 7, 8, 9, 10, 11, 12, 13, 14, 15, 16, 17, 18, 19, 23, 30], [1, 1, 1, 1, 1, 1, 1, 1, 1, 1, 1, 1, 1, 1, 1, 1, 1, 1, 1, 4, 7, 10], [3, 3, 3, 3, 3, 3, 3, 3, 3, 3, 3, 4, 24, 90, 90, 266, 267, 24, 4, 268, 270, 94], [.int .i64, .int .i64, .int .i64, .int .i64, .int .i64, .int .i64, .int .i64, .int .i64, .int .i64, .int .i64, .int .i64, .bool, .sl 24, .sl 90, .sl 90, .sl 266, .sl 267, .sl 24, .bool, .int .i64, .int .i64, .int .i64, .int .i64, .int .i64, .int .i64, .int .i64, .int .i64, .int .i64, .sl 90, .sl 24, .int .i64, .int .i64, .int .i64, .bool, .sl 24, .sl 90, .sl 91, .sl 24, .sl 90, .sl 92], false⟩ := by kernel_rfl
theorem cx_at272 : PM.find cx 272 = some ⟨40, true, [.int .i64 0, .int .i64 0, .int .i64 0, .int .i64 0, .int .i64 0, .int .i64 0, .int .i64 0, .int .i64 0, .int .i64 0, .int .i64 0, .int .i64 0, .bool false, .arr (.emp (.ints 3 .i64)), .arr (.emp (.vecs 297 2)), .arr (.emp (.vecs 297 2)), .arr (.emp (.rows 395)), .arr (.emp (.vecs 401 3)), .arr (.emp (.ints 3 .i64)), .bool false, .int .i64 0, .int .i64 0, .int .i64 0, .int .i64 0, .int .i64 0, .int .i64 0, .int .i64 0, .int .i64 0, .int .i64 0, .arr (.emp (.vecs 297 2)), .arr (.emp (.ints 3 .i64)), .int .i64 0, .int .i64 0, .int .i64 0, .bool false, .arr (.emp (.ints 3 .i64)), .arr (.emp (.vecs 297 2)), .arr (.emp (.vecs 299 3)), .arr (.emp (.ints 3 .i64)), .arr (.emp (.vecs 297 2)), .arr (.emp (.rows 295))], none, 0, none, [0, 1, 2, 3, 4, 5, 6, 7, 8, 9, 10, 11, 12, 13, 14, 15, 16, 17, 18, 19, 23, 30], [1, 1, 1, 1, 1, 1, 1, 1, 1, 1, 1, 1, 1, 1, 1, 1, 1, 1, 1, 4, 7, 10], [3, 3, 3, 3, 3, 3, 3, 3, 3, 3, 3, 4, 24, 90, 90, 266, 267, 24, 4, 268, 270, 94], [.int .i64, .int .i64, .int .i64, .int .i64, .int .i64, .int .i64, .int .i64, .int .i64, .int .i64, .int .i64, .int .i64, .bool, .sl 24, .sl 90, .sl 90, .sl 266, .sl 267, .sl 24, .bool, .int .i64, .int .i64, .int .i64, .int .i64, .int .i64, .int .i64, .int .i64, .int .i64, .int .i64, .sl 90, .sl 24, .int .i64, .int .i64, .int .i64, .bool, .sl 24, .sl 90, .sl 91, .sl 24, .sl 90, .sl 92], false⟩ := by kernel_rfl
theorem cx_at274 : PM.find cx 274 = some ⟨3, true, [.int .i64 0, .int .i64 0, .int .i64 0], none, 0, none, [0, 1, 2], [1, 1, 1], [3, 3, 3], [.int .i64, .int .i64, .int .i64], true⟩ := by kernel_rfl
theorem cx_at275 : PM.find cx 275 = some ⟨3, true, [.int .i64 0, .int .i64 0, .int .i64 0], none, 0, none, [0, 1, 2], [1, 1, 1], [3, 3, 3], [.int .i64, .int .i64, .int .i64], true⟩ := by kernel_rfl
theorem cx_at277 : PM.find cx 277 = some ⟨3, true, [.int .i64 0, .int .i64 0, .int .i64 0], none, 0, none, [0, 1, 2], [1, 1, 1], [3, 3, 3], [.int .i64, .int .i64, .int .i64], true⟩ := by kernel_rfl
theorem cx_at284 : PM.find cx 284 = some ⟨18, true, [.int .i64 0, .int .i64 0, .int .i64 0, .int .i64 0, .int .i64 0, .arr (.emp (.vecs 297 2)), .bool false, .int .i64 0, .int .i64 0, .int .i64 0, .int .i64 0, .int .i64 0, .int .i64 0, .int .i64 0, .int .i64 0, .int .i64 0, .arr (.emp (.vecs 297 2)), .arr (.emp (.ints 3 .i64))], none, 0, none, [0, 1, 2, 3, 4, 5, 6, 7, 11], [1, 1, 1, 1, 1, 1, 1, 4, 7], [3, 3, 3, 3, 3, 90, 4, 268, 270], [.int .i64, .int .i64, .int .i64, .int .i64, .int .i64, .sl 90, .bool, .int .i64, .int .i64, .int .i64, .int .i64, .int .i64, .int .i64, .int .i64, .int .i64, .int .i64, .sl 90, .sl 24], false⟩ := by kernel_rfl
theorem cx_at285 : PM.find cx 285 = some ⟨18, true, [.int .i64 0, .int .i64 0, .int .i64 0, .int .i64 0, .int .i64 0, .arr (.emp (.vecs 297 2)), .bool false, .int .i64 0, .int .i64 0, .int .i64 0, .int .i64 0, .int .i64 0, .int .i64 0, .int .i64 0, .int .i64 0, .int .i64 0, .arr (.emp (.vecs 297 2)), .arr (.emp (.ints 3 .i64))], none, 0, none, [0, 1, 2, 3, 4, 5, 6, 7, 11], [1, 1, 1, 1, 1, 1, 1, 4, 7], [3, 3, 3, 3, 3, 90, 4, 268, 270], [.int .i64, .int .i64, .int .i64, .int .i64, .int .i64, .sl 90, .bool, .int .i64, .int .i64, .int .i64, .int .i64, .int .i64, .int .i64, .int .i64, .int .i64, .int .i64, .sl 90, .sl 24], false⟩ := by kernel_rfl
theorem cx_at286 : PM.find cx 286 = some ⟨3, true, [.int .i64 0, .int .i64 0, .int .i64 0], none, 0, none, [0, 1, 2], [1, 1, 1], [3, 3, 3], [.int .i64, .int .i64, .int .i64], true⟩ := by kernel_rfl
theorem cx_at287 : PM.find cx 287 = some ⟨3, true, [.int .i64 0, .int .i64 0, .int .i64 0], none, 0, none, [0, 1, 2], [1, 1, 1], [3, 3, 3], [.int .i64, .int .i64, .int .i64], true⟩ := by kernel_rfl
theorem cx_at293 : PM.find cx 293 = some ⟨1, false, [.arr (.emp (.rows 405))], some (.rows 405), 3, none, [], [], [], [.sl 293], false⟩ := by kernel_rfl
theorem cx_at294 : PM.find cx 294 = some ⟨15, true, [.int .i64 0, .int .i64 0, .int .i64 0, .int .i64 0, .int .i64 0, .int .i64 0, .arr (.emp (.ints 3 .i64)), .arr (.emp (.vecs 299 3)), .arr (.emp (.vecs 297 2)), .arr (.emp (.rows 405)), .bool false, .int .i64 0, .int .i64 0, .int .i64 0, .int .i64 0], none, 0, none, [0, 1, 2, 3, 4, 5, 6, 7, 8, 9, 10, 11], [1, 1, 1, 1, 1, 1, 1, 1, 1, 1, 1, 4], [3, 3, 3, 3, 3, 3, 24, 91, 90, 293, 4, 268], [.int .i64, .int .i64, .int .i64, .int .i64, .int .i64, .int .i64, .sl 24, .sl 91, .sl 90, .sl 293, .bool, .int .i64, .int .i64, .int .i64, .int .i64], false⟩ := by kernel_rfl
theorem cx_at295 : PM.find cx 295 = some ⟨15, true, [.int .i64 0, .int .i64 0, .int .i64 0, .int .i64 0, .int .i64 0, .int .i64 0, .arr (.emp (.ints 3 .i64)), .arr (.emp (.vecs 299 3)), .arr (.emp (.vecs 297 2)), .arr (.emp (.rows 405)), .bool false, .int .i64 0, .int .i64 0, .int .i64 0, .int .i64 0], none, 0, none, [0, 1, 2, 3, 4, 5, 6, 7, 8, 9, 10, 11], [1, 1, 1, 1, 1, 1, 1, 1, 1, 1, 1, 4], [3, 3, 3, 3, 3, 3, 24, 91, 90, 293, 4, 268], [.int .i64, .int .i64, .int .i64, .int .i64, .int .i64, .int .i64, .sl 24, .sl 91, .sl 90, .sl 293, .bool, .int .i64, .int .i64, .int .i64, .int .i64], false⟩ := by kernel_rfl
theorem cx_at297 : PM.find cx 297 = some ⟨2, true, [.int .i64 0, .int .i64 0], none, 0, none, [0, 1], [1, 1], [3, 3], [.int .i64, .int .i64], true⟩ := by kernel_rfl
theorem cx_at299 : PM.find cx 299 = some ⟨3, true, [.int .i64 0, .int .i64 0, .int .i64 0], none, 0, none, [0, 1, 2], [1, 1, 1], [3, 3, 3], [.int .i64, .int .i64, .int .i64], true⟩ := by kernel_rfl
theorem cx_at307 : PM.find cx 307 = some ⟨1, false, [.arr (.emp (.vecs 409 4))], some (.vecs 409 4), 4, none, [], [], [], [.sl 307], false⟩ := by kernel_rfl
theorem cx_at308 : PM.find cx 308 = some ⟨1, true, [.arr (.emp (.vecs 409 4))], none, 0, none, [0], [1], [307], [.sl 307], false⟩ := by kernel_rfl
theorem cx_at309 : PM.find cx 309 = some ⟨1, true, [.arr (.emp (.vecs 409 4))], none, 0, none, [0], [1], [307], [.sl 307], false⟩ := by kernel_rfl
theorem cx_at311 : PM.find cx 311 = some ⟨4, true, [.int .i64 0, .int .i64 0, .int .i64 0, .int .i64 0], none, 0, none, [0, 1, 2, 3], [1, 1, 1, 1], [3, 3, 3, 3], [.int .i64, .int .i64, .int .i64, .int .i64], true⟩ := by kernel_rfl
theorem cx_at312 : PM.find cx 312 = some ⟨4, true, [.int .i64 0, .int .i64 0, .int .i64 0, .int .i64 0], none, 0, none, [0, 1, 2, 3], [1, 1, 1, 1], [3, 3, 3, 3], [.int .i64, .int .i64, .int .i64, .int .i64], true⟩ := by kernel_rfl
theorem cx_at316 : PM.find cx 316 = some ⟨2, true, [.arr (.emp (.vecs 409 4)), .arr (.emp (.rows 309))], none, 0, none, [0, 1], [1, 1], [307, 112], [.sl 307, .sl 112], false⟩ := by kernel_rfl
theorem cx_at317 : PM.find cx 317 = some ⟨2, true, [.arr (.emp (.vecs 409 4)), .arr (.emp (.rows 309))], none, 0, none, [0, 1], [1, 1], [307, 112], [.sl 307, .sl 112], false⟩ := by kernel_rfl
theorem cx_at319 : PM.find cx 319 = some ⟨3, true, [.int .i64 0, .int .i64 0, .int .i64 0], none, 0, none, [0, 1, 2], [1, 1, 1], [3, 3, 3], [.int .i64, .int .i64, .int .i64], true⟩ := by kernel_rfl
theorem cx_at320 : PM.find cx 320 = some ⟨3, true, [.int .i64 0, .int .i64 0, .int .i64 0], none, 0, none, [0, 1, 2], [1, 1, 1], [3, 3, 3], [.int .i64, .int .i64, .int .i64], true⟩ := by kernel_rfl
theorem cx_at322 : PM.find cx 322 = some ⟨3, true, [.int .i64 0, .int .i64 0, .int .i64 0], none, 0, none, [0, 1, 2], [1, 1, 1], [3, 3, 3], [.int .i64, .int .i64, .int .i64], true⟩ := by kernel_rfl
theorem cx_at326 : PM.find cx 326 = some ⟨1, false, [.arr (.emp (.bools 4))], some (.bools 4), 1, none, [], [], [], [.sl 326], false⟩ := by kernel_rfl
theorem cx_at327 : PM.find cx 327 = some ⟨5, true, [.int .i64 0, .arr (.emp (.ints 3 .i64)), .arr (.emp (.ints 3 .i64)), .arr (.emp (.ints 3 .i64)), .int .i64 0], none, 0, none, [0, 1, 2], [1, 1, 3], [3, 24, 135], [.int .i64, .sl 24, .sl 24, .sl 24, .int .i64], false⟩ := by kernel_rfl
theorem cx_at328 : PM.find cx 328 = some ⟨5, true, [.int .i64 0, .arr (.emp (.ints 3 .i64)), .arr (.emp (.ints 3 .i64)), .arr (.emp (.ints 3 .i64)), .int .i64 0], none, 0, none, [0, 1, 2], [1, 1, 3], [3, 24, 135], [.int .i64, .sl 24, .sl 24, .sl 24, .int .i64], false⟩ := by kernel_rfl
theorem cx_at334 : PM.find cx 334 = some ⟨1, false, [.int .i64 0], none, 0, none, [], [], [], [.int .i64], false⟩ := by kernel_rfl
theorem cx_at341 : PM.find cx 341 = some ⟨1, false, [.int .u32 0], none, 0, none, [], [], [], [.int .u32], false⟩ := by kernel_rfl
theorem cx_at343 : PM.find cx 343 = some ⟨1, false, [.int .u64 0], none, 0, none, [], [], [], [.int .u64], false⟩ := by kernel_rfl
theorem cx_at354 : PM.find cx 354 = some ⟨3, true, [.int .i64 0, .int .i64 0, .int .i64 0], none, 0, none, [0, 1, 2], [1, 1, 1], [3, 3, 3], [.int .i64, .int .i64, .int .i64], true⟩ := by kernel_rfl
theorem cx_at367 : PM.find cx 367 = some ⟨3, true, [.int .i64 0, .int .i64 0, .arr (.emp (.ints 3 .i64))], none, 0, none, [0, 1, 2], [1, 1, 1], [3, 3, 24], [.int .i64, .int .i64, .sl 24], false⟩ := by kernel_rfl
theorem cx_at368 : PM.find cx 368 = some ⟨3, true, [.int .i64 0, .int .i64 0, .arr (.emp (.ints 3 .i64))], none, 0, none, [0, 1, 2], [1, 1, 1], [3, 3, 24], [.int .i64, .int .i64, .sl 24], false⟩ := by kernel_rfl
theorem cx_at376 : PM.find cx 376 = some ⟨1, false, [.arr (.emp (.rows 378))], some (.rows 378), 5, none, [], [], [], [.sl 376], false⟩ := by kernel_rfl
theorem cx_at377 : PM.find cx 377 = some ⟨5, true, [.int .i64 0, .arr (.emp (.ints 3 .i64)), .arr (.emp (.ints 3 .i64)), .arr (.emp (.ints 3 .i64)), .int .i64 0], none, 0, none, [0, 1, 2], [1, 1, 3], [3, 24, 135], [.int .i64, .sl 24, .sl 24, .sl 24, .int .i64], false⟩ := by kernel_rfl
theorem cx_at378 : PM.find cx 378 = some ⟨5, true, [.int .i64 0, .arr (.emp (.ints 3 .i64)), .arr (.emp (.ints 3 .i64)), .arr (.emp (.ints 3 .i64)), .int .i64 0], none, 0, none, [0, 1, 2], [1, 1, 3], [3, 24, 135], [.int .i64, .sl 24, .sl 24, .sl 24, .int .i64], false⟩ := by kernel_rfl
theorem cx_at380 : PM.find cx 380 = some ⟨1, false, [.arr (.emp (.rows 382))], some (.rows 382), 5, none, [], [], [], [.sl 380], false⟩ := by kernel_rfl
theorem cx_at381 : PM.find cx 381 = some ⟨5, true, [.int .i64 0, .arr (.emp (.ints 3 .i64)), .arr (.emp (.ints 3 .i64)), .arr (.emp (.ints 3 .i64)), .int .i64 0], none, 0, none, [0, 1, 2], [1, 1, 3], [3, 24, 135], [.int .i64, .sl 24, .sl 24, .sl 24, .int .i64], false⟩ := by kernel_rfl
theorem cx_at382 : PM.find cx 382 = some ⟨5, true, [.int .i64 0, .arr (.emp (.ints 3 .i64)), .arr (.emp (.ints 3 .i64)), .arr (.emp (.ints 3 .i64)), .int .i64 0], none, 0, none, [0, 1, 2], [1, 1, 3], [3, 24, 135], [.int .i64, .sl 24, .sl 24, .sl 24, .int .i64], false⟩ := by kernel_rfl
theorem cx_at385 : PM.find cx 385 = some ⟨1, false, [.int .u64 0], none, 0, none, [], [], [], [.int .u64], false⟩ := by kernel_rfl
theorem cx_at394 : PM.find cx 394 = some ⟨5, true, [.int .i64 0, .int .i64 0, .int .i64 0, .int .i64 0, .arr (.emp (.ints 3 .i64))], none, 0, none, [0, 1, 2, 3, 4], [1, 1, 1, 1, 1], [3, 3, 3, 3, 24], [.int .i64, .int .i64, .int .i64, .int .i64, .sl 24], false⟩ := by kernel_rfl
theorem cx_at395 : PM.find cx 395 = some ⟨5, true, [.int .i64 0, .int .i64 0, .int .i64 0, .int .i64 0, .arr (.emp (.ints 3 .i64))], none, 0, none, [0, 1, 2, 3, 4], [1, 1, 1, 1, 1], [3, 3, 3, 3, 24], [.int .i64, .int .i64, .int .i64, .int .i64, .sl 24], false⟩ := by kernel_rfl
theorem cx_at396 : PM.find cx 396 = some ⟨5, true, [.int .i64 0, .int .i64 0, .int .i64 0, .int .i64 0, .arr (.emp (.ints 3 .i64))], none, 0, none, [0, 1, 2, 3, 4], [1, 1, 1, 1, 1], [3, 3, 3, 3, 24], [.int .i64, .int .i64, .int .i64, .int .i64, .sl 24], false⟩ := by kernel_rfl
theorem cx_at398 : PM.find cx 398 = some ⟨3, true, [.int .i64 0, .int .i64 0, .int .i64 0], none, 0, none, [0, 1, 2], [1, 1, 1], [3, 3, 3], [.int .i64, .int .i64, .int .i64], true⟩ := by kernel_rfl
theorem cx_at399 : PM.find cx 399 = some ⟨3, true, [.int .i64 0, .int .i64 0, .int .i64 0], none, 0, none, [0, 1, 2], [1, 1, 1], [3, 3, 3], [.int .i64, .int .i64, .int .i64], true⟩ := by kernel_rfl
theorem cx_at401 : PM.find cx 401 = some ⟨3, true, [.int .i64 0, .int .i64 0, .int .i64 0], none, 0, none, [0, 1, 2], [1, 1, 1], [3, 3, 3], [.int .i64, .int .i64, .int .i64], true⟩ := by kernel_rfl
theorem cx_at405 : PM.find cx 405 = some ⟨3, true, [.int .i64 0, .int .i64 0, .arr (.emp (.ints 3 .i64))], none, 0, none, [0, 1, 2], [1, 1, 1], [3, 3, 24], [.int .i64, .int .i64, .sl 24], false⟩ := by kernel_rfl
theorem cx_at409 : PM.find cx 409 = some ⟨4, true, [.int .i64 0, .int .i64 0, .int .i64 0, .int .i64 0], none, 0, none, [0, 1, 2, 3], [1, 1, 1, 1], [3, 3, 3, 3], [.int .i64, .int .i64, .int .i64, .int .i64], true⟩ := by kernel_rfl
theorem cx_at423 : PM.find cx 423 = some ⟨1, false, [.int .u8 0], none, 0, none, [], [], [], [.int .u8], false⟩ := by kernel_rfl
theorem cx_at424 : PM.find cx 424 = some ⟨1, false, [.int .u8 0], none, 0, none, [], [], [], [.int .u8], false⟩ := by kernel_rfl
theorem cx_at427 : PM.find cx 427 = some ⟨1, false, [.int .i32 0], none, 0, none, [], [], [], [.int .i32], false⟩ := by kernel_rfl
theorem cx_at428 : PM.find cx 428 = some ⟨1, false, [.int .i32 0], none, 0, none, [], [], [], [.int .i32], false⟩ := by kernel_rfl

abbrev laws_szWordS_T := (List (List Int)) → (Int) → ((Int) → PM.R) → PM.R
noncomputable def laws_szWordS_w (c : laws_szWordS_T) (ds : List PM.V) (k : PM.V → PM.R) : PM.R :=
  match ds with
  | [.arr (.vecs 354 3 a), .int .i64 left] => c a left (fun r0 => k (.int .i64 r0))
  | _ => none
noncomputable def laws_szWordS_f (A : PM.Prims) (a : List (List Int)) (left : Int) (k : (Int) → PM.R) : PM.R :=
  bif (A.lt (A.sub .i64 left (A.vlen a)) 0) then
    k (-1)
  else
    k (A.sub .i64 left (A.vlen a))
noncomputable def laws_szWordS (A : PM.Prims) : laws_szWordS_T := laws_szWordS_f A
noncomputable def laws_szWordS_L (A : PM.Prims) (n : Nat) : PM.Lam := fun cur σ K =>
  match cur, σ, K with
  | _, _, _ => none
noncomputable def laws_szWordS_E (A : PM.Prims) : PM.Env := ⟨[], [], [], [(0, [0, 1]), (1, [1]), (2, [1, 10]), (3, [4]), (4, [4])], laws_szWordS_L A A.fuel⟩
theorem laws_szWordS_ok (A : PM.Prims) (a : List (List Int)) (left : Int) (k : PM.V → PM.R) : PM.pfun A cx [] (laws_szWordS_E A) Go.Proofs.Try.f199 [.arr (.vecs 354 3 a), .int .i64 left] k = laws_szWordS_f A a left (fun r0 => k (.int .i64 r0)) := by kernel_rfl

theorem laws_szWordS_fn : PM.FnIs Try.prog 199 Try.f199 := .of Try.func199 (by kernel_rfl) (by kernel_rfl)
theorem laws_szWordS_g : PM.GOk Try.prog cx 199 ⟨[], laws_szWordS_w (laws_szWordS PM.std), none⟩ := by
  refine ⟨laws_szWordS_fn.enter, fun _ ds k r h => ?_, fun hm => absurd rfl hm, fun _ e => (by cases e)⟩
  change laws_szWordS_w (laws_szWordS PM.std) ds k = some r at h
  unfold laws_szWordS_w at h
  split at h
  · exact PM.pfun_ok (E := laws_szWordS_E PM.std) (L := fun n => laws_szWordS_L PM.std n) (N := PM.std.fuel) cx_ok .nil mixed .nil laws_szWordS_fn (by kernel_rfl) ⟨rfl, fun _ _ _ => rfl, fun n cur σ K r h => by cases h⟩
      ((laws_szWordS_ok PM.std _ _ k).trans h)
  · cases h

abbrev laws_szMem_T := (Int) → (List (List Int)) → (Int) → ((Int) → PM.R) → PM.R
noncomputable def laws_szMem_w (c : laws_szMem_T) (ds : List PM.V) (k : PM.V → PM.R) : PM.R :=
  match ds with
  | [.agg [.int .i64 a_Clock, .arr (.vecs 354 3 a_Cells)], .int .i64 left] => c a_Clock a_Cells left (fun r0 => k (.int .i64 r0))
  | _ => none
noncomputable def laws_szMem_f (A : PM.Prims) (c_199 : laws_szWordS_T) (a_Clock : Int) (a_Cells : List (List Int)) (left : Int) (k : (Int) → PM.R) : PM.R :=
  c_199 a_Cells left (fun r1 =>
    bif (A.lt r1 0) then
      k (-1)
    else
      k r1)
noncomputable def laws_szMem (A : PM.Prims) : laws_szMem_T := laws_szMem_f A (laws_szWordS A)
noncomputable def laws_szMem_L (A : PM.Prims) (c_199 : laws_szWordS_T) (n : Nat) : PM.Lam := fun cur σ K =>
  match cur, σ, K with
  | _, _, _ => none
noncomputable def laws_szMem_E (A : PM.Prims) (c_199 : laws_szWordS_T) : PM.Env := ⟨[(199, ⟨[], laws_szWordS_w c_199, none⟩)], [], [], [(0, [1, 2]), (1, [1]), (2, [1, 10]), (3, [4]), (4, [4])], laws_szMem_L A c_199 A.fuel⟩
theorem laws_szMem_ok (A : PM.Prims) (c_199 : laws_szWordS_T) (a_Clock : Int) (a_Cells : List (List Int)) (left : Int) (k : PM.V → PM.R) : PM.pfun A cx [] (laws_szMem_E A c_199) Go.Proofs.Try.f108 [.agg [.int .i64 a_Clock, .arr (.vecs 354 3 a_Cells)], .int .i64 left] k = laws_szMem_f A c_199 a_Clock a_Cells left (fun r0 => k (.int .i64 r0)) := by kernel_rfl

theorem laws_szMem_fn : PM.FnIs Try.prog 108 Try.f108 := .of Try.func108 (by kernel_rfl) (by kernel_rfl)
theorem laws_szMem_g : PM.GOk Try.prog cx 108 ⟨[], laws_szMem_w (laws_szMem PM.std), none⟩ := by
  refine ⟨laws_szMem_fn.enter, fun _ ds k r h => ?_, fun hm => absurd rfl hm, fun _ e => (by cases e)⟩
  change laws_szMem_w (laws_szMem PM.std) ds k = some r at h
  unfold laws_szMem_w at h
  split at h
  · exact PM.pfun_ok (E := laws_szMem_E PM.std (laws_szWordS PM.std)) (L := fun n => laws_szMem_L PM.std (laws_szWordS PM.std) n) (N := PM.std.fuel) cx_ok (.cons laws_szWordS_g .nil) mixed .nil laws_szMem_fn (by kernel_rfl) ⟨rfl, fun _ _ _ => rfl, fun n cur σ K r h => by cases h⟩
      ((laws_szMem_ok PM.std (laws_szWordS PM.std) _ _ _ k).trans h)
  · cases h

abbrev laws_szIntS_T := (List Int) → (Int) → ((Int) → PM.R) → PM.R
noncomputable def laws_szIntS_w (c : laws_szIntS_T) (ds : List PM.V) (k : PM.V → PM.R) : PM.R :=
  match ds with
  | [.arr (.ints 3 .i64 a), .int .i64 left] => c a left (fun r0 => k (.int .i64 r0))
  | _ => none
noncomputable def laws_szIntS_f (A : PM.Prims) (a : List Int) (left : Int) (k : (Int) → PM.R) : PM.R :=
  bif (A.lt (A.sub .i64 left (A.ilen a)) 0) then
    k (-1)
  else
    k (A.sub .i64 left (A.ilen a))
noncomputable def laws_szIntS (A : PM.Prims) : laws_szIntS_T := laws_szIntS_f A
noncomputable def laws_szIntS_L (A : PM.Prims) (n : Nat) : PM.Lam := fun cur σ K =>
  match cur, σ, K with
  | _, _, _ => none
noncomputable def laws_szIntS_E (A : PM.Prims) : PM.Env := ⟨[], [], [], [(0, [0, 1]), (1, [1]), (2, [1, 10]), (3, [4]), (4, [4])], laws_szIntS_L A A.fuel⟩
theorem laws_szIntS_ok (A : PM.Prims) (a : List Int) (left : Int) (k : PM.V → PM.R) : PM.pfun A cx [] (laws_szIntS_E A) Go.Proofs.Try.f146 [.arr (.ints 3 .i64 a), .int .i64 left] k = laws_szIntS_f A a left (fun r0 => k (.int .i64 r0)) := by kernel_rfl

theorem laws_szIntS_fn : PM.FnIs Try.prog 146 Try.f146 := .of Try.func146 (by kernel_rfl) (by kernel_rfl)
theorem laws_szIntS_g : PM.GOk Try.prog cx 146 ⟨[], laws_szIntS_w (laws_szIntS PM.std), none⟩ := by
  refine ⟨laws_szIntS_fn.enter, fun _ ds k r h => ?_, fun hm => absurd rfl hm, fun _ e => (by cases e)⟩
  change laws_szIntS_w (laws_szIntS PM.std) ds k = some r at h
  unfold laws_szIntS_w at h
  split at h
  · exact PM.pfun_ok (E := laws_szIntS_E PM.std) (L := fun n => laws_szIntS_L PM.std n) (N := PM.std.fuel) cx_ok .nil mixed .nil laws_szIntS_fn (by kernel_rfl) ⟨rfl, fun _ _ _ => rfl, fun n cur σ K r h => by cases h⟩
      ((laws_szIntS_ok PM.std _ _ k).trans h)
  · cases h

abbrev laws_szShelf_T := (List Int) → (Int) → (Int) → ((Int) → PM.R) → PM.R
noncomputable def laws_szShelf_w (c : laws_szShelf_T) (ds : List PM.V) (k : PM.V → PM.R) : PM.R :=
  match ds with
  | [.agg [.arr (.ints 3 .i64 a_Slots), .int .i64 a_Count], .int .i64 left] => c a_Slots a_Count left (fun r0 => k (.int .i64 r0))
  | _ => none
noncomputable def laws_szShelf_f (A : PM.Prims) (c_146 : laws_szIntS_T) (a_Slots : List Int) (a_Count : Int) (left : Int) (k : (Int) → PM.R) : PM.R :=
  c_146 a_Slots left (fun r1 =>
    bif (A.lt r1 0) then
      k (-1)
    else
      k r1)
noncomputable def laws_szShelf (A : PM.Prims) : laws_szShelf_T := laws_szShelf_f A (laws_szIntS A)
noncomputable def laws_szShelf_L (A : PM.Prims) (c_146 : laws_szIntS_T) (n : Nat) : PM.Lam := fun cur σ K =>
  match cur, σ, K with
  | _, _, _ => none
noncomputable def laws_szShelf_E (A : PM.Prims) (c_146 : laws_szIntS_T) : PM.Env := ⟨[(146, ⟨[], laws_szIntS_w c_146, none⟩)], [], [], [(0, [1, 2]), (1, [1]), (2, [1, 10]), (3, [4]), (4, [4])], laws_szShelf_L A c_146 A.fuel⟩
theorem laws_szShelf_ok (A : PM.Prims) (c_146 : laws_szIntS_T) (a_Slots : List Int) (a_Count : Int) (left : Int) (k : PM.V → PM.R) : PM.pfun A cx [] (laws_szShelf_E A c_146) Go.Proofs.Try.f109 [.agg [.arr (.ints 3 .i64 a_Slots), .int .i64 a_Count], .int .i64 left] k = laws_szShelf_f A c_146 a_Slots a_Count left (fun r0 => k (.int .i64 r0)) := by kernel_rfl

theorem laws_szShelf_fn : PM.FnIs Try.prog 109 Try.f109 := .of Try.func109 (by kernel_rfl) (by kernel_rfl)
theorem laws_szShelf_g : PM.GOk Try.prog cx 109 ⟨[], laws_szShelf_w (laws_szShelf PM.std), none⟩ := by
  refine ⟨laws_szShelf_fn.enter, fun _ ds k r h => ?_, fun hm => absurd rfl hm, fun _ e => (by cases e)⟩
  change laws_szShelf_w (laws_szShelf PM.std) ds k = some r at h
  unfold laws_szShelf_w at h
  split at h
  · exact PM.pfun_ok (E := laws_szShelf_E PM.std (laws_szIntS PM.std)) (L := fun n => laws_szShelf_L PM.std (laws_szIntS PM.std) n) (N := PM.std.fuel) cx_ok (.cons laws_szIntS_g .nil) mixed .nil laws_szShelf_fn (by kernel_rfl) ⟨rfl, fun _ _ _ => rfl, fun n cur σ K r h => by cases h⟩
      ((laws_szShelf_ok PM.std (laws_szIntS PM.std) _ _ _ k).trans h)
  · cases h

abbrev laws_szHoldS_T := (List (List Int)) → (Int) → ((Int) → PM.R) → PM.R
noncomputable def laws_szHoldS_w (c : laws_szHoldS_T) (ds : List PM.V) (k : PM.V → PM.R) : PM.R :=
  match ds with
  | [.arr (.vecs 277 3 a), .int .i64 left] => c a left (fun r0 => k (.int .i64 r0))
  | _ => none
noncomputable def laws_szHoldS_f (A : PM.Prims) (a : List (List Int)) (left : Int) (k : (Int) → PM.R) : PM.R :=
  bif (A.lt (A.sub .i64 left (A.vlen a)) 0) then
    k (-1)
  else
    k (A.sub .i64 left (A.vlen a))
noncomputable def laws_szHoldS (A : PM.Prims) : laws_szHoldS_T := laws_szHoldS_f A
noncomputable def laws_szHoldS_L (A : PM.Prims) (n : Nat) : PM.Lam := fun cur σ K =>
  match cur, σ, K with
  | _, _, _ => none
noncomputable def laws_szHoldS_E (A : PM.Prims) : PM.Env := ⟨[], [], [], [(0, [0, 1]), (1, [1]), (2, [1, 10]), (3, [4]), (4, [4])], laws_szHoldS_L A A.fuel⟩
theorem laws_szHoldS_ok (A : PM.Prims) (a : List (List Int)) (left : Int) (k : PM.V → PM.R) : PM.pfun A cx [] (laws_szHoldS_E A) Go.Proofs.Try.f110 [.arr (.vecs 277 3 a), .int .i64 left] k = laws_szHoldS_f A a left (fun r0 => k (.int .i64 r0)) := by kernel_rfl

theorem laws_szHoldS_fn : PM.FnIs Try.prog 110 Try.f110 := .of Try.func110 (by kernel_rfl) (by kernel_rfl)
theorem laws_szHoldS_g : PM.GOk Try.prog cx 110 ⟨[], laws_szHoldS_w (laws_szHoldS PM.std), none⟩ := by
  refine ⟨laws_szHoldS_fn.enter, fun _ ds k r h => ?_, fun hm => absurd rfl hm, fun _ e => (by cases e)⟩
  change laws_szHoldS_w (laws_szHoldS PM.std) ds k = some r at h
  unfold laws_szHoldS_w at h
  split at h
  · exact PM.pfun_ok (E := laws_szHoldS_E PM.std) (L := fun n => laws_szHoldS_L PM.std n) (N := PM.std.fuel) cx_ok .nil mixed .nil laws_szHoldS_fn (by kernel_rfl) ⟨rfl, fun _ _ _ => rfl, fun n cur σ K r h => by cases h⟩
      ((laws_szHoldS_ok PM.std _ _ k).trans h)
  · cases h

abbrev laws_szRowS_T := (List (List Int)) → (Int) → ((Int) → PM.R) → PM.R
noncomputable def laws_szRowS_w (c : laws_szRowS_T) (ds : List PM.V) (k : PM.V → PM.R) : PM.R :=
  match ds with
  | [.arr (.vecs 297 2 a), .int .i64 left] => c a left (fun r0 => k (.int .i64 r0))
  | _ => none
noncomputable def laws_szRowS_f (A : PM.Prims) (a : List (List Int)) (left : Int) (k : (Int) → PM.R) : PM.R :=
  bif (A.lt (A.sub .i64 left (A.vlen a)) 0) then
    k (-1)
  else
    k (A.sub .i64 left (A.vlen a))
noncomputable def laws_szRowS (A : PM.Prims) : laws_szRowS_T := laws_szRowS_f A
noncomputable def laws_szRowS_L (A : PM.Prims) (n : Nat) : PM.Lam := fun cur σ K =>
  match cur, σ, K with
  | _, _, _ => none
noncomputable def laws_szRowS_E (A : PM.Prims) : PM.Env := ⟨[], [], [], [(0, [0, 1]), (1, [1]), (2, [1, 10]), (3, [4]), (4, [4])], laws_szRowS_L A A.fuel⟩
theorem laws_szRowS_ok (A : PM.Prims) (a : List (List Int)) (left : Int) (k : PM.V → PM.R) : PM.pfun A cx [] (laws_szRowS_E A) Go.Proofs.Try.f147 [.arr (.vecs 297 2 a), .int .i64 left] k = laws_szRowS_f A a left (fun r0 => k (.int .i64 r0)) := by kernel_rfl

theorem laws_szRowS_fn : PM.FnIs Try.prog 147 Try.f147 := .of Try.func147 (by kernel_rfl) (by kernel_rfl)
theorem laws_szRowS_g : PM.GOk Try.prog cx 147 ⟨[], laws_szRowS_w (laws_szRowS PM.std), none⟩ := by
  refine ⟨laws_szRowS_fn.enter, fun _ ds k r h => ?_, fun hm => absurd rfl hm, fun _ e => (by cases e)⟩
  change laws_szRowS_w (laws_szRowS PM.std) ds k = some r at h
  unfold laws_szRowS_w at h
  split at h
  · exact PM.pfun_ok (E := laws_szRowS_E PM.std) (L := fun n => laws_szRowS_L PM.std n) (N := PM.std.fuel) cx_ok .nil mixed .nil laws_szRowS_fn (by kernel_rfl) ⟨rfl, fun _ _ _ => rfl, fun n cur σ K r h => by cases h⟩
      ((laws_szRowS_ok PM.std _ _ k).trans h)
  · cases h

abbrev laws_szMark_T := (Int) → (Int) → (Int) → (Int) → (List Int) → (Int) → ((Int) → PM.R) → PM.R
noncomputable def laws_szMark_w (c : laws_szMark_T) (ds : List PM.V) (k : PM.V → PM.R) : PM.R :=
  match ds with
  | [.agg [.int .i64 a_Pc, .int .i64 a_Reads, .int .i64 a_Writes, .int .i64 a_Undos, .arr (.ints 3 .i64 a_Regs)], .int .i64 left] => c a_Pc a_Reads a_Writes a_Undos a_Regs left (fun r0 => k (.int .i64 r0))
  | _ => none
noncomputable def laws_szMark_f (A : PM.Prims) (c_146 : laws_szIntS_T) (a_Pc : Int) (a_Reads : Int) (a_Writes : Int) (a_Undos : Int) (a_Regs : List Int) (left : Int) (k : (Int) → PM.R) : PM.R :=
  c_146 a_Regs left (fun r1 =>
    bif (A.lt r1 0) then
      k (-1)
    else
      k r1)
noncomputable def laws_szMark (A : PM.Prims) : laws_szMark_T := laws_szMark_f A (laws_szIntS A)
noncomputable def laws_szMark_L (A : PM.Prims) (c_146 : laws_szIntS_T) (n : Nat) : PM.Lam := fun cur σ K =>
  match cur, σ, K with
  | _, _, _ => none
noncomputable def laws_szMark_E (A : PM.Prims) (c_146 : laws_szIntS_T) : PM.Env := ⟨[(146, ⟨[], laws_szIntS_w c_146, none⟩)], [], [], [(0, [1, 2]), (1, [1]), (2, [1, 10]), (3, [4]), (4, [4])], laws_szMark_L A c_146 A.fuel⟩
theorem laws_szMark_ok (A : PM.Prims) (c_146 : laws_szIntS_T) (a_Pc : Int) (a_Reads : Int) (a_Writes : Int) (a_Undos : Int) (a_Regs : List Int) (left : Int) (k : PM.V → PM.R) : PM.pfun A cx [] (laws_szMark_E A c_146) Go.Proofs.Try.f307 [.agg [.int .i64 a_Pc, .int .i64 a_Reads, .int .i64 a_Writes, .int .i64 a_Undos, .arr (.ints 3 .i64 a_Regs)], .int .i64 left] k = laws_szMark_f A c_146 a_Pc a_Reads a_Writes a_Undos a_Regs left (fun r0 => k (.int .i64 r0)) := by kernel_rfl

theorem laws_szMark_fn : PM.FnIs Try.prog 307 Try.f307 := .of Try.func307 (by kernel_rfl) (by kernel_rfl)
theorem laws_szMark_g : PM.GOk Try.prog cx 307 ⟨[], laws_szMark_w (laws_szMark PM.std), none⟩ := by
  refine ⟨laws_szMark_fn.enter, fun _ ds k r h => ?_, fun hm => absurd rfl hm, fun _ e => (by cases e)⟩
  change laws_szMark_w (laws_szMark PM.std) ds k = some r at h
  unfold laws_szMark_w at h
  split at h
  · exact PM.pfun_ok (E := laws_szMark_E PM.std (laws_szIntS PM.std)) (L := fun n => laws_szMark_L PM.std (laws_szIntS PM.std) n) (N := PM.std.fuel) cx_ok (.cons laws_szIntS_g .nil) mixed .nil laws_szMark_fn (by kernel_rfl) ⟨rfl, fun _ _ _ => rfl, fun n cur σ K r h => by cases h⟩
      ((laws_szMark_ok PM.std (laws_szIntS PM.std) _ _ _ _ _ _ k).trans h)
  · cases h

abbrev laws_szMarkS_T := (List (List PM.C)) → (Int) → ((Int) → PM.R) → PM.R
noncomputable def laws_szMarkS_w (c : laws_szMarkS_T) (ds : List PM.V) (k : PM.V → PM.R) : PM.R :=
  match ds with
  | [.arr (.rows 395 a), .int .i64 left] => c a left (fun r0 => k (.int .i64 r0))
  | _ => none
noncomputable def laws_szMarkS_l0 (A : PM.Prims) (c_307 : laws_szMark_T) : Nat → (List (List C)) → (Int) → (Int) → ((Int) → PM.R) → ((Int) → PM.R) → PM.R
  | 0, _, _, _, _, _ => none
  | n + 1, a1, left2, i3, kret_0, kx0_0 =>
    bif (A.lt i3 (A.rlen a1)) then
      bif (A.inb i3 (A.rlen a1)) then
        c_307 (A.rint a1 i3 0) (A.rint a1 i3 1) (A.rint a1 i3 2) (A.rint a1 i3 3) (A.rsi a1 i3 4) left2 (fun r4 =>
          bif (A.lt r4 0) then
            kret_0 (-1)
          else
            laws_szMarkS_l0 A c_307 n a1 r4 (A.add .i64 i3 1) kret_0 kx0_0)
      else
        none
    else
      kx0_0 left2
noncomputable def laws_szMarkS_f (A : PM.Prims) (c_307 : laws_szMark_T) (a : List (List PM.C)) (left : Int) (k : (Int) → PM.R) : PM.R :=
  bif (A.lt (A.sub .i64 left (A.rlen a)) 0) then
    k (-1)
  else
    laws_szMarkS_l0 A c_307 A.fuel a (A.sub .i64 left (A.rlen a)) 0 (fun t457 =>
      k t457) (fun left68 =>
      k left68)
noncomputable def laws_szMarkS (A : PM.Prims) : laws_szMarkS_T := laws_szMarkS_f A (laws_szMark A)
noncomputable def laws_szMarkS_L (A : PM.Prims) (c_307 : laws_szMark_T) (n : Nat) : PM.Lam := fun cur σ K =>
  match cur, σ, K with
  | 0, ⟨[(0, .arr (.rows 395 a1)), (1, .int .i64 left2), (5, .int .i64 i3)], []⟩, K => laws_szMarkS_l0 A c_307 n a1 left2 i3 (fun t45 => K .ret ⟨[(4, .int .i64 t45)], []⟩) (fun left6 => K (.exit 0) ⟨[(1, .int .i64 left6)], []⟩)
  | _, _, _ => none
noncomputable def laws_szMarkS_E (A : PM.Prims) (c_307 : laws_szMark_T) : PM.Env := ⟨[(307, ⟨[], laws_szMark_w c_307, none⟩)], [], [(0, [0, 1, 5], [1, 4])], [(0, [0, 1]), (1, [0, 1]), (2, [0, 1, 11]), (3, [4]), (4, [0, 1, 5]), (5, [0, 1, 5, 15]), (6, [0, 1, 5]), (7, [0, 1, 5]), (8, [0, 1, 5, 25]), (9, [4]), (10, [4])], laws_szMarkS_L A c_307 A.fuel⟩
theorem laws_szMarkS_l0_ok (A : PM.Prims) (c_307 : laws_szMark_T) (n : Nat) (a1 : List (List C)) (left2 : Int) (i3 : Int) (K : Go.Exit → PM.S → PM.R) : laws_szMarkS_L A c_307 (n + 1) 0 ⟨[(0, .arr (.rows 395 a1)), (1, .int .i64 left2), (5, .int .i64 i3)], []⟩ K = PM.roundF A cx (PM.runD A cx (laws_szMarkS_E A c_307).inl (laws_szMarkS_E A c_307).Γ 3) (laws_szMarkS_E A c_307) (laws_szMarkS_L A c_307 n) 0 Go.Proofs.Try.f263 ⟨[(0, .arr (.rows 395 a1)), (1, .int .i64 left2), (5, .int .i64 i3)], []⟩ K := by kernel_rfl
theorem laws_szMarkS_ok (A : PM.Prims) (c_307 : laws_szMark_T) (a : List (List PM.C)) (left : Int) (k : PM.V → PM.R) : PM.pfun A cx [] (laws_szMarkS_E A c_307) Go.Proofs.Try.f263 [.arr (.rows 395 a), .int .i64 left] k = laws_szMarkS_f A c_307 a left (fun r0 => k (.int .i64 r0)) := by kernel_rfl

theorem laws_szMarkS_fn : PM.FnIs Try.prog 263 Try.f263 := .of Try.func263 (by kernel_rfl) (by kernel_rfl)
theorem laws_szMarkS_g : PM.GOk Try.prog cx 263 ⟨[], laws_szMarkS_w (laws_szMarkS PM.std), none⟩ := by
  refine ⟨laws_szMarkS_fn.enter, fun _ ds k r h => ?_, fun hm => absurd rfl hm, fun _ e => (by cases e)⟩
  change laws_szMarkS_w (laws_szMarkS PM.std) ds k = some r at h
  unfold laws_szMarkS_w at h
  split at h
  · exact PM.pfun_ok (E := laws_szMarkS_E PM.std (laws_szMark PM.std)) (L := fun n => laws_szMarkS_L PM.std (laws_szMark PM.std) n) (N := PM.std.fuel) cx_ok (.cons laws_szMark_g .nil) mixed .nil laws_szMarkS_fn (by kernel_rfl) ⟨rfl, fun cur σ K => by
      dsimp only [laws_szMarkS_L]
      split <;> rfl, fun n cur σ K r h => by
      dsimp only [laws_szMarkS_L] at h
      split at h
      · exact (laws_szMarkS_l0_ok PM.std (laws_szMark PM.std) n _ _ _ K).symm.trans h
      · cases h⟩
      ((laws_szMarkS_ok PM.std (laws_szMark PM.std) _ _ k).trans h)
  · cases h

abbrev laws_szUndoS_T := (List (List Int)) → (Int) → ((Int) → PM.R) → PM.R
noncomputable def laws_szUndoS_w (c : laws_szUndoS_T) (ds : List PM.V) (k : PM.V → PM.R) : PM.R :=
  match ds with
  | [.arr (.vecs 401 3 a), .int .i64 left] => c a left (fun r0 => k (.int .i64 r0))
  | _ => none
noncomputable def laws_szUndoS_f (A : PM.Prims) (a : List (List Int)) (left : Int) (k : (Int) → PM.R) : PM.R :=
  bif (A.lt (A.sub .i64 left (A.vlen a)) 0) then
    k (-1)
  else
    k (A.sub .i64 left (A.vlen a))
noncomputable def laws_szUndoS (A : PM.Prims) : laws_szUndoS_T := laws_szUndoS_f A
noncomputable def laws_szUndoS_L (A : PM.Prims) (n : Nat) : PM.Lam := fun cur σ K =>
  match cur, σ, K with
  | _, _, _ => none
noncomputable def laws_szUndoS_E (A : PM.Prims) : PM.Env := ⟨[], [], [], [(0, [0, 1]), (1, [1]), (2, [1, 10]), (3, [4]), (4, [4])], laws_szUndoS_L A A.fuel⟩
theorem laws_szUndoS_ok (A : PM.Prims) (a : List (List Int)) (left : Int) (k : PM.V → PM.R) : PM.pfun A cx [] (laws_szUndoS_E A) Go.Proofs.Try.f264 [.arr (.vecs 401 3 a), .int .i64 left] k = laws_szUndoS_f A a left (fun r0 => k (.int .i64 r0)) := by kernel_rfl

theorem laws_szUndoS_fn : PM.FnIs Try.prog 264 Try.f264 := .of Try.func264 (by kernel_rfl) (by kernel_rfl)
theorem laws_szUndoS_g : PM.GOk Try.prog cx 264 ⟨[], laws_szUndoS_w (laws_szUndoS PM.std), none⟩ := by
  refine ⟨laws_szUndoS_fn.enter, fun _ ds k r h => ?_, fun hm => absurd rfl hm, fun _ e => (by cases e)⟩
  change laws_szUndoS_w (laws_szUndoS PM.std) ds k = some r at h
  unfold laws_szUndoS_w at h
  split at h
  · exact PM.pfun_ok (E := laws_szUndoS_E PM.std) (L := fun n => laws_szUndoS_L PM.std n) (N := PM.std.fuel) cx_ok .nil mixed .nil laws_szUndoS_fn (by kernel_rfl) ⟨rfl, fun _ _ _ => rfl, fun n cur σ K r h => by cases h⟩
      ((laws_szUndoS_ok PM.std _ _ k).trans h)
  · cases h

abbrev laws_szCommit_T := (Int) → (Int) → (Int) → (Int) → (Int) → (List (List Int)) → (List Int) → (Int) → ((Int) → PM.R) → PM.R
noncomputable def laws_szCommit_w (c : laws_szCommit_T) (ds : List PM.V) (k : PM.V → PM.R) : PM.R :=
  match ds with
  | [.agg [.int .i64 a_Who, .int .i64 a_Rv, .int .i64 a_Phase, .int .i64 a_At, .int .i64 a_Wv, .arr (.vecs 297 2 a_Puts), .arr (.ints 3 .i64 a_Reads)], .int .i64 left] => c a_Who a_Rv a_Phase a_At a_Wv a_Puts a_Reads left (fun r0 => k (.int .i64 r0))
  | _ => none
noncomputable def laws_szCommit_f (A : PM.Prims) (c_146 : laws_szIntS_T) (c_147 : laws_szRowS_T) (a_Who : Int) (a_Rv : Int) (a_Phase : Int) (a_At : Int) (a_Wv : Int) (a_Puts : List (List Int)) (a_Reads : List Int) (left : Int) (k : (Int) → PM.R) : PM.R :=
  c_147 a_Puts left (fun r1 =>
    bif (A.lt r1 0) then
      k (-1)
    else
      c_146 a_Reads r1 (fun r2 =>
        bif (A.lt r2 0) then
          k (-1)
        else
          k r2))
noncomputable def laws_szCommit (A : PM.Prims) : laws_szCommit_T := laws_szCommit_f A (laws_szIntS A) (laws_szRowS A)
noncomputable def laws_szCommit_L (A : PM.Prims) (c_146 : laws_szIntS_T) (c_147 : laws_szRowS_T) (n : Nat) : PM.Lam := fun cur σ K =>
  match cur, σ, K with
  | _, _, _ => none
noncomputable def laws_szCommit_E (A : PM.Prims) (c_146 : laws_szIntS_T) (c_147 : laws_szRowS_T) : PM.Env := ⟨[(146, ⟨[], laws_szIntS_w c_146, none⟩), (147, ⟨[], laws_szRowS_w c_147, none⟩)], [], [], [(0, [1, 2]), (1, [1, 2]), (2, [1, 2, 10]), (3, [4]), (4, [1]), (5, [1, 16]), (6, [4]), (7, [4])], laws_szCommit_L A c_146 c_147 A.fuel⟩
theorem laws_szCommit_ok (A : PM.Prims) (c_146 : laws_szIntS_T) (c_147 : laws_szRowS_T) (a_Who : Int) (a_Rv : Int) (a_Phase : Int) (a_At : Int) (a_Wv : Int) (a_Puts : List (List Int)) (a_Reads : List Int) (left : Int) (k : PM.V → PM.R) : PM.pfun A cx [] (laws_szCommit_E A c_146 c_147) Go.Proofs.Try.f265 [.agg [.int .i64 a_Who, .int .i64 a_Rv, .int .i64 a_Phase, .int .i64 a_At, .int .i64 a_Wv, .arr (.vecs 297 2 a_Puts), .arr (.ints 3 .i64 a_Reads)], .int .i64 left] k = laws_szCommit_f A c_146 c_147 a_Who a_Rv a_Phase a_At a_Wv a_Puts a_Reads left (fun r0 => k (.int .i64 r0)) := by kernel_rfl

theorem laws_szCommit_fn : PM.FnIs Try.prog 265 Try.f265 := .of Try.func265 (by kernel_rfl) (by kernel_rfl)
theorem laws_szCommit_g : PM.GOk Try.prog cx 265 ⟨[], laws_szCommit_w (laws_szCommit PM.std), none⟩ := by
  refine ⟨laws_szCommit_fn.enter, fun _ ds k r h => ?_, fun hm => absurd rfl hm, fun _ e => (by cases e)⟩
  change laws_szCommit_w (laws_szCommit PM.std) ds k = some r at h
  unfold laws_szCommit_w at h
  split at h
  · exact PM.pfun_ok (E := laws_szCommit_E PM.std (laws_szIntS PM.std) (laws_szRowS PM.std)) (L := fun n => laws_szCommit_L PM.std (laws_szIntS PM.std) (laws_szRowS PM.std) n) (N := PM.std.fuel) cx_ok (.cons laws_szIntS_g (.cons laws_szRowS_g .nil)) mixed .nil laws_szCommit_fn (by kernel_rfl) ⟨rfl, fun _ _ _ => rfl, fun n cur σ K r h => by cases h⟩
      ((laws_szCommit_ok PM.std (laws_szIntS PM.std) (laws_szRowS PM.std) _ _ _ _ _ _ _ _ k).trans h)
  · cases h

abbrev laws_szEntryS_T := (List (List Int)) → (Int) → ((Int) → PM.R) → PM.R
noncomputable def laws_szEntryS_w (c : laws_szEntryS_T) (ds : List PM.V) (k : PM.V → PM.R) : PM.R :=
  match ds with
  | [.arr (.vecs 299 3 a), .int .i64 left] => c a left (fun r0 => k (.int .i64 r0))
  | _ => none
noncomputable def laws_szEntryS_f (A : PM.Prims) (a : List (List Int)) (left : Int) (k : (Int) → PM.R) : PM.R :=
  bif (A.lt (A.sub .i64 left (A.vlen a)) 0) then
    k (-1)
  else
    k (A.sub .i64 left (A.vlen a))
noncomputable def laws_szEntryS (A : PM.Prims) : laws_szEntryS_T := laws_szEntryS_f A
noncomputable def laws_szEntryS_L (A : PM.Prims) (n : Nat) : PM.Lam := fun cur σ K =>
  match cur, σ, K with
  | _, _, _ => none
noncomputable def laws_szEntryS_E (A : PM.Prims) : PM.Env := ⟨[], [], [], [(0, [0, 1]), (1, [1]), (2, [1, 10]), (3, [4]), (4, [4])], laws_szEntryS_L A A.fuel⟩
theorem laws_szEntryS_ok (A : PM.Prims) (a : List (List Int)) (left : Int) (k : PM.V → PM.R) : PM.pfun A cx [] (laws_szEntryS_E A) Go.Proofs.Try.f148 [.arr (.vecs 299 3 a), .int .i64 left] k = laws_szEntryS_f A a left (fun r0 => k (.int .i64 r0)) := by kernel_rfl

theorem laws_szEntryS_fn : PM.FnIs Try.prog 148 Try.f148 := .of Try.func148 (by kernel_rfl) (by kernel_rfl)
theorem laws_szEntryS_g : PM.GOk Try.prog cx 148 ⟨[], laws_szEntryS_w (laws_szEntryS PM.std), none⟩ := by
  refine ⟨laws_szEntryS_fn.enter, fun _ ds k r h => ?_, fun hm => absurd rfl hm, fun _ e => (by cases e)⟩
  change laws_szEntryS_w (laws_szEntryS PM.std) ds k = some r at h
  unfold laws_szEntryS_w at h
  split at h
  · exact PM.pfun_ok (E := laws_szEntryS_E PM.std) (L := fun n => laws_szEntryS_L PM.std n) (N := PM.std.fuel) cx_ok .nil mixed .nil laws_szEntryS_fn (by kernel_rfl) ⟨rfl, fun _ _ _ => rfl, fun n cur σ K r h => by cases h⟩
      ((laws_szEntryS_ok PM.std _ _ k).trans h)
  · cases h

abbrev laws_szKidMark_T := (Int) → (Int) → (List Int) → (Int) → ((Int) → PM.R) → PM.R
noncomputable def laws_szKidMark_w (c : laws_szKidMark_T) (ds : List PM.V) (k : PM.V → PM.R) : PM.R :=
  match ds with
  | [.agg [.int .i64 a_Pc, .int .i64 a_Writes, .arr (.ints 3 .i64 a_Regs)], .int .i64 left] => c a_Pc a_Writes a_Regs left (fun r0 => k (.int .i64 r0))
  | _ => none
noncomputable def laws_szKidMark_f (A : PM.Prims) (c_146 : laws_szIntS_T) (a_Pc : Int) (a_Writes : Int) (a_Regs : List Int) (left : Int) (k : (Int) → PM.R) : PM.R :=
  c_146 a_Regs left (fun r1 =>
    bif (A.lt r1 0) then
      k (-1)
    else
      k r1)
noncomputable def laws_szKidMark (A : PM.Prims) : laws_szKidMark_T := laws_szKidMark_f A (laws_szIntS A)
noncomputable def laws_szKidMark_L (A : PM.Prims) (c_146 : laws_szIntS_T) (n : Nat) : PM.Lam := fun cur σ K =>
  match cur, σ, K with
  | _, _, _ => none
noncomputable def laws_szKidMark_E (A : PM.Prims) (c_146 : laws_szIntS_T) : PM.Env := ⟨[(146, ⟨[], laws_szIntS_w c_146, none⟩)], [], [], [(0, [1, 2]), (1, [1]), (2, [1, 10]), (3, [4]), (4, [4])], laws_szKidMark_L A c_146 A.fuel⟩
theorem laws_szKidMark_ok (A : PM.Prims) (c_146 : laws_szIntS_T) (a_Pc : Int) (a_Writes : Int) (a_Regs : List Int) (left : Int) (k : PM.V → PM.R) : PM.pfun A cx [] (laws_szKidMark_E A c_146) Go.Proofs.Try.f312 [.agg [.int .i64 a_Pc, .int .i64 a_Writes, .arr (.ints 3 .i64 a_Regs)], .int .i64 left] k = laws_szKidMark_f A c_146 a_Pc a_Writes a_Regs left (fun r0 => k (.int .i64 r0)) := by kernel_rfl

theorem laws_szKidMark_fn : PM.FnIs Try.prog 312 Try.f312 := .of Try.func312 (by kernel_rfl) (by kernel_rfl)
theorem laws_szKidMark_g : PM.GOk Try.prog cx 312 ⟨[], laws_szKidMark_w (laws_szKidMark PM.std), none⟩ := by
  refine ⟨laws_szKidMark_fn.enter, fun _ ds k r h => ?_, fun hm => absurd rfl hm, fun _ e => (by cases e)⟩
  change laws_szKidMark_w (laws_szKidMark PM.std) ds k = some r at h
  unfold laws_szKidMark_w at h
  split at h
  · exact PM.pfun_ok (E := laws_szKidMark_E PM.std (laws_szIntS PM.std)) (L := fun n => laws_szKidMark_L PM.std (laws_szIntS PM.std) n) (N := PM.std.fuel) cx_ok (.cons laws_szIntS_g .nil) mixed .nil laws_szKidMark_fn (by kernel_rfl) ⟨rfl, fun _ _ _ => rfl, fun n cur σ K r h => by cases h⟩
      ((laws_szKidMark_ok PM.std (laws_szIntS PM.std) _ _ _ _ k).trans h)
  · cases h

abbrev laws_szKidMarkS_T := (List (List PM.C)) → (Int) → ((Int) → PM.R) → PM.R
noncomputable def laws_szKidMarkS_w (c : laws_szKidMarkS_T) (ds : List PM.V) (k : PM.V → PM.R) : PM.R :=
  match ds with
  | [.arr (.rows 405 a), .int .i64 left] => c a left (fun r0 => k (.int .i64 r0))
  | _ => none
noncomputable def laws_szKidMarkS_l0 (A : PM.Prims) (c_312 : laws_szKidMark_T) : Nat → (List (List C)) → (Int) → (Int) → ((Int) → PM.R) → ((Int) → PM.R) → PM.R
  | 0, _, _, _, _, _ => none
  | n + 1, a1, left2, i3, kret_0, kx0_0 =>
    bif (A.lt i3 (A.rlen a1)) then
      bif (A.inb i3 (A.rlen a1)) then
        c_312 (A.rint a1 i3 0) (A.rint a1 i3 1) (A.rsi a1 i3 2) left2 (fun r4 =>
          bif (A.lt r4 0) then
            kret_0 (-1)
          else
            laws_szKidMarkS_l0 A c_312 n a1 r4 (A.add .i64 i3 1) kret_0 kx0_0)
      else
        none
    else
      kx0_0 left2
noncomputable def laws_szKidMarkS_f (A : PM.Prims) (c_312 : laws_szKidMark_T) (a : List (List PM.C)) (left : Int) (k : (Int) → PM.R) : PM.R :=
  bif (A.lt (A.sub .i64 left (A.rlen a)) 0) then
    k (-1)
  else
    laws_szKidMarkS_l0 A c_312 A.fuel a (A.sub .i64 left (A.rlen a)) 0 (fun t457 =>
      k t457) (fun left68 =>
      k left68)
noncomputable def laws_szKidMarkS (A : PM.Prims) : laws_szKidMarkS_T := laws_szKidMarkS_f A (laws_szKidMark A)
noncomputable def laws_szKidMarkS_L (A : PM.Prims) (c_312 : laws_szKidMark_T) (n : Nat) : PM.Lam := fun cur σ K =>
  match cur, σ, K with
  | 0, ⟨[(0, .arr (.rows 405 a1)), (1, .int .i64 left2), (5, .int .i64 i3)], []⟩, K => laws_szKidMarkS_l0 A c_312 n a1 left2 i3 (fun t45 => K .ret ⟨[(4, .int .i64 t45)], []⟩) (fun left6 => K (.exit 0) ⟨[(1, .int .i64 left6)], []⟩)
  | _, _, _ => none
noncomputable def laws_szKidMarkS_E (A : PM.Prims) (c_312 : laws_szKidMark_T) : PM.Env := ⟨[(312, ⟨[], laws_szKidMark_w c_312, none⟩)], [], [(0, [0, 1, 5], [1, 4])], [(0, [0, 1]), (1, [0, 1]), (2, [0, 1, 11]), (3, [4]), (4, [0, 1, 5]), (5, [0, 1, 5, 15]), (6, [0, 1, 5]), (7, [0, 1, 5]), (8, [0, 1, 5, 25]), (9, [4]), (10, [4])], laws_szKidMarkS_L A c_312 A.fuel⟩
theorem laws_szKidMarkS_l0_ok (A : PM.Prims) (c_312 : laws_szKidMark_T) (n : Nat) (a1 : List (List C)) (left2 : Int) (i3 : Int) (K : Go.Exit → PM.S → PM.R) : laws_szKidMarkS_L A c_312 (n + 1) 0 ⟨[(0, .arr (.rows 405 a1)), (1, .int .i64 left2), (5, .int .i64 i3)], []⟩ K = PM.roundF A cx (PM.runD A cx (laws_szKidMarkS_E A c_312).inl (laws_szKidMarkS_E A c_312).Γ 3) (laws_szKidMarkS_E A c_312) (laws_szKidMarkS_L A c_312 n) 0 Go.Proofs.Try.f276 ⟨[(0, .arr (.rows 405 a1)), (1, .int .i64 left2), (5, .int .i64 i3)], []⟩ K := by kernel_rfl
theorem laws_szKidMarkS_ok (A : PM.Prims) (c_312 : laws_szKidMark_T) (a : List (List PM.C)) (left : Int) (k : PM.V → PM.R) : PM.pfun A cx [] (laws_szKidMarkS_E A c_312) Go.Proofs.Try.f276 [.arr (.rows 405 a), .int .i64 left] k = laws_szKidMarkS_f A c_312 a left (fun r0 => k (.int .i64 r0)) := by kernel_rfl

theorem laws_szKidMarkS_fn : PM.FnIs Try.prog 276 Try.f276 := .of Try.func276 (by kernel_rfl) (by kernel_rfl)
theorem laws_szKidMarkS_g : PM.GOk Try.prog cx 276 ⟨[], laws_szKidMarkS_w (laws_szKidMarkS PM.std), none⟩ := by
  refine ⟨laws_szKidMarkS_fn.enter, fun _ ds k r h => ?_, fun hm => absurd rfl hm, fun _ e => (by cases e)⟩
  change laws_szKidMarkS_w (laws_szKidMarkS PM.std) ds k = some r at h
  unfold laws_szKidMarkS_w at h
  split at h
  · exact PM.pfun_ok (E := laws_szKidMarkS_E PM.std (laws_szKidMark PM.std)) (L := fun n => laws_szKidMarkS_L PM.std (laws_szKidMark PM.std) n) (N := PM.std.fuel) cx_ok (.cons laws_szKidMark_g .nil) mixed .nil laws_szKidMarkS_fn (by kernel_rfl) ⟨rfl, fun cur σ K => by
      dsimp only [laws_szKidMarkS_L]
      split <;> rfl, fun n cur σ K r h => by
      dsimp only [laws_szKidMarkS_L] at h
      split at h
      · exact (laws_szKidMarkS_l0_ok PM.std (laws_szKidMark PM.std) n _ _ _ K).symm.trans h
      · cases h⟩
      ((laws_szKidMarkS_ok PM.std (laws_szKidMark PM.std) _ _ k).trans h)
  · cases h

abbrev laws_szKidRun_T := (Int) → (Int) → (Int) → (Int) → (Int) → (Int) → (List Int) → (List (List Int)) → (List (List Int)) → (List (List PM.C)) → (Bool) → (Int) → (Int) → (Int) → (Int) → (Int) → ((Int) → PM.R) → PM.R
noncomputable def laws_szKidRun_w (c : laws_szKidRun_T) (ds : List PM.V) (k : PM.V → PM.R) : PM.R :=
  match ds with
  | [.agg [.int .i64 a_Phase, .int .i64 a_Pc, .int .i64 a_Since, .int .i64 a_Tries, .int .i64 a_At, .int .i64 a_Out, .arr (.ints 3 .i64 a_Regs), .arr (.vecs 299 3 a_Seen), .arr (.vecs 297 2 a_Writes), .arr (.rows 405 a_Marks), .bool a_Busy, .int .i64 a_Probe_Cell, .int .i64 a_Probe_Phase, .int .i64 a_Probe_Ver, .int .i64 a_Probe_Val], .int .i64 left] => c a_Phase a_Pc a_Since a_Tries a_At a_Out a_Regs a_Seen a_Writes a_Marks a_Busy a_Probe_Cell a_Probe_Phase a_Probe_Ver a_Probe_Val left (fun r0 => k (.int .i64 r0))
  | _ => none
noncomputable def laws_szKidRun_f (A : PM.Prims) (c_146 : laws_szIntS_T) (c_147 : laws_szRowS_T) (c_148 : laws_szEntryS_T) (c_276 : laws_szKidMarkS_T) (a_Phase : Int) (a_Pc : Int) (a_Since : Int) (a_Tries : Int) (a_At : Int) (a_Out : Int) (a_Regs : List Int) (a_Seen : List (List Int)) (a_Writes : List (List Int)) (a_Marks : List (List PM.C)) (a_Busy : Bool) (a_Probe_Cell : Int) (a_Probe_Phase : Int) (a_Probe_Ver : Int) (a_Probe_Val : Int) (left : Int) (k : (Int) → PM.R) : PM.R :=
  c_146 a_Regs left (fun r1 =>
    bif (A.lt r1 0) then
      k (-1)
    else
      c_148 a_Seen r1 (fun r2 =>
        bif (A.lt r2 0) then
          k (-1)
        else
          c_147 a_Writes r2 (fun r3 =>
            bif (A.lt r3 0) then
              k (-1)
            else
              c_276 a_Marks r3 (fun r4 =>
                bif (A.lt r4 0) then
                  k (-1)
                else
                  k r4))))
noncomputable def laws_szKidRun (A : PM.Prims) : laws_szKidRun_T := laws_szKidRun_f A (laws_szIntS A) (laws_szRowS A) (laws_szEntryS A) (laws_szKidMarkS A)
noncomputable def laws_szKidRun_L (A : PM.Prims) (c_146 : laws_szIntS_T) (c_147 : laws_szRowS_T) (c_148 : laws_szEntryS_T) (c_276 : laws_szKidMarkS_T) (n : Nat) : PM.Lam := fun cur σ K =>
  match cur, σ, K with
  | _, _, _ => none
noncomputable def laws_szKidRun_E (A : PM.Prims) (c_146 : laws_szIntS_T) (c_147 : laws_szRowS_T) (c_148 : laws_szEntryS_T) (c_276 : laws_szKidMarkS_T) : PM.Env := ⟨[(146, ⟨[], laws_szIntS_w c_146, none⟩), (147, ⟨[], laws_szRowS_w c_147, none⟩), (148, ⟨[], laws_szEntryS_w c_148, none⟩), (276, ⟨[], laws_szKidMarkS_w c_276, none⟩)], [], [], [(0, [1, 2]), (1, [1, 2]), (2, [1, 2, 10]), (3, [4]), (4, [1, 2]), (5, [1, 2, 16]), (6, [4]), (7, [1, 2]), (8, [1, 2, 22]), (9, [4]), (10, [1]), (11, [1, 28]), (12, [4]), (13, [4])], laws_szKidRun_L A c_146 c_147 c_148 c_276 A.fuel⟩
theorem laws_szKidRun_ok (A : PM.Prims) (c_146 : laws_szIntS_T) (c_147 : laws_szRowS_T) (c_148 : laws_szEntryS_T) (c_276 : laws_szKidMarkS_T) (a_Phase : Int) (a_Pc : Int) (a_Since : Int) (a_Tries : Int) (a_At : Int) (a_Out : Int) (a_Regs : List Int) (a_Seen : List (List Int)) (a_Writes : List (List Int)) (a_Marks : List (List PM.C)) (a_Busy : Bool) (a_Probe_Cell : Int) (a_Probe_Phase : Int) (a_Probe_Ver : Int) (a_Probe_Val : Int) (left : Int) (k : PM.V → PM.R) : PM.pfun A cx [] (laws_szKidRun_E A c_146 c_147 c_148 c_276) Go.Proofs.Try.f213 [.agg [.int .i64 a_Phase, .int .i64 a_Pc, .int .i64 a_Since, .int .i64 a_Tries, .int .i64 a_At, .int .i64 a_Out, .arr (.ints 3 .i64 a_Regs), .arr (.vecs 299 3 a_Seen), .arr (.vecs 297 2 a_Writes), .arr (.rows 405 a_Marks), .bool a_Busy, .int .i64 a_Probe_Cell, .int .i64 a_Probe_Phase, .int .i64 a_Probe_Ver, .int .i64 a_Probe_Val], .int .i64 left] k = laws_szKidRun_f A c_146 c_147 c_148 c_276 a_Phase a_Pc a_Since a_Tries a_At a_Out a_Regs a_Seen a_Writes a_Marks a_Busy a_Probe_Cell a_Probe_Phase a_Probe_Ver a_Probe_Val left (fun r0 => k (.int .i64 r0)) := by kernel_rfl

theorem laws_szKidRun_fn : PM.FnIs Try.prog 213 Try.f213 := .of Try.func213 (by kernel_rfl) (by kernel_rfl)
theorem laws_szKidRun_g : PM.GOk Try.prog cx 213 ⟨[], laws_szKidRun_w (laws_szKidRun PM.std), none⟩ := by
  refine ⟨laws_szKidRun_fn.enter, fun _ ds k r h => ?_, fun hm => absurd rfl hm, fun _ e => (by cases e)⟩
  change laws_szKidRun_w (laws_szKidRun PM.std) ds k = some r at h
  unfold laws_szKidRun_w at h
  split at h
  · exact PM.pfun_ok (E := laws_szKidRun_E PM.std (laws_szIntS PM.std) (laws_szRowS PM.std) (laws_szEntryS PM.std) (laws_szKidMarkS PM.std)) (L := fun n => laws_szKidRun_L PM.std (laws_szIntS PM.std) (laws_szRowS PM.std) (laws_szEntryS PM.std) (laws_szKidMarkS PM.std) n) (N := PM.std.fuel) cx_ok (.cons laws_szIntS_g (.cons laws_szRowS_g (.cons laws_szEntryS_g (.cons laws_szKidMarkS_g .nil)))) mixed .nil laws_szKidRun_fn (by kernel_rfl) ⟨rfl, fun _ _ _ => rfl, fun n cur σ K r h => by cases h⟩
      ((laws_szKidRun_ok PM.std (laws_szIntS PM.std) (laws_szRowS PM.std) (laws_szEntryS PM.std) (laws_szKidMarkS PM.std) _ _ _ _ _ _ _ _ _ _ _ _ _ _ _ _ k).trans h)
  · cases h

abbrev laws_szKidRunS_T := (List (List PM.C)) → (Int) → ((Int) → PM.R) → PM.R
noncomputable def laws_szKidRunS_w (c : laws_szKidRunS_T) (ds : List PM.V) (k : PM.V → PM.R) : PM.R :=
  match ds with
  | [.arr (.rows 295 a), .int .i64 left] => c a left (fun r0 => k (.int .i64 r0))
  | _ => none
noncomputable def laws_szKidRunS_l0 (A : PM.Prims) (c_213 : laws_szKidRun_T) : Nat → (List (List C)) → (Int) → (Int) → ((Int) → PM.R) → ((Int) → PM.R) → PM.R
  | 0, _, _, _, _, _ => none
  | n + 1, a1, left2, i3, kret_0, kx0_0 =>
    bif (A.lt i3 (A.rlen a1)) then
      bif (A.inb i3 (A.rlen a1)) then
        c_213 (A.rint a1 i3 0) (A.rint a1 i3 1) (A.rint a1 i3 2) (A.rint a1 i3 3) (A.rint a1 i3 4) (A.rint a1 i3 5) (A.rsi a1 i3 6) (A.rsv 3 a1 i3 7) (A.rsv 2 a1 i3 8) (A.rsr a1 i3 9) (A.rbool a1 i3 10) (A.rint a1 i3 11) (A.rint a1 i3 12) (A.rint a1 i3 13) (A.rint a1 i3 14) left2 (fun r4 =>
          bif (A.lt r4 0) then
            kret_0 (-1)
          else
            laws_szKidRunS_l0 A c_213 n a1 r4 (A.add .i64 i3 1) kret_0 kx0_0)
      else
        none
    else
      kx0_0 left2
noncomputable def laws_szKidRunS_f (A : PM.Prims) (c_213 : laws_szKidRun_T) (a : List (List PM.C)) (left : Int) (k : (Int) → PM.R) : PM.R :=
  bif (A.lt (A.sub .i64 left (A.rlen a)) 0) then
    k (-1)
  else
    laws_szKidRunS_l0 A c_213 A.fuel a (A.sub .i64 left (A.rlen a)) 0 (fun t457 =>
      k t457) (fun left68 =>
      k left68)
noncomputable def laws_szKidRunS (A : PM.Prims) : laws_szKidRunS_T := laws_szKidRunS_f A (laws_szKidRun A)
noncomputable def laws_szKidRunS_L (A : PM.Prims) (c_213 : laws_szKidRun_T) (n : Nat) : PM.Lam := fun cur σ K =>
  match cur, σ, K with
  | 0, ⟨[(0, .arr (.rows 295 a1)), (1, .int .i64 left2), (5, .int .i64 i3)], []⟩, K => laws_szKidRunS_l0 A c_213 n a1 left2 i3 (fun t45 => K .ret ⟨[(4, .int .i64 t45)], []⟩) (fun left6 => K (.exit 0) ⟨[(1, .int .i64 left6)], []⟩)
  | _, _, _ => none
noncomputable def laws_szKidRunS_E (A : PM.Prims) (c_213 : laws_szKidRun_T) : PM.Env := ⟨[(213, ⟨[], laws_szKidRun_w c_213, none⟩)], [], [(0, [0, 1, 5], [1, 4])], [(0, [0, 1]), (1, [0, 1]), (2, [0, 1, 11]), (3, [4]), (4, [0, 1, 5]), (5, [0, 1, 5, 15]), (6, [0, 1, 5]), (7, [0, 1, 5]), (8, [0, 1, 5, 25]), (9, [4]), (10, [4])], laws_szKidRunS_L A c_213 A.fuel⟩
theorem laws_szKidRunS_l0_ok (A : PM.Prims) (c_213 : laws_szKidRun_T) (n : Nat) (a1 : List (List C)) (left2 : Int) (i3 : Int) (K : Go.Exit → PM.S → PM.R) : laws_szKidRunS_L A c_213 (n + 1) 0 ⟨[(0, .arr (.rows 295 a1)), (1, .int .i64 left2), (5, .int .i64 i3)], []⟩ K = PM.roundF A cx (PM.runD A cx (laws_szKidRunS_E A c_213).inl (laws_szKidRunS_E A c_213).Γ 3) (laws_szKidRunS_E A c_213) (laws_szKidRunS_L A c_213 n) 0 Go.Proofs.Try.f149 ⟨[(0, .arr (.rows 295 a1)), (1, .int .i64 left2), (5, .int .i64 i3)], []⟩ K := by kernel_rfl
theorem laws_szKidRunS_ok (A : PM.Prims) (c_213 : laws_szKidRun_T) (a : List (List PM.C)) (left : Int) (k : PM.V → PM.R) : PM.pfun A cx [] (laws_szKidRunS_E A c_213) Go.Proofs.Try.f149 [.arr (.rows 295 a), .int .i64 left] k = laws_szKidRunS_f A c_213 a left (fun r0 => k (.int .i64 r0)) := by kernel_rfl

theorem laws_szKidRunS_fn : PM.FnIs Try.prog 149 Try.f149 := .of Try.func149 (by kernel_rfl) (by kernel_rfl)
theorem laws_szKidRunS_g : PM.GOk Try.prog cx 149 ⟨[], laws_szKidRunS_w (laws_szKidRunS PM.std), none⟩ := by
  refine ⟨laws_szKidRunS_fn.enter, fun _ ds k r h => ?_, fun hm => absurd rfl hm, fun _ e => (by cases e)⟩
  change laws_szKidRunS_w (laws_szKidRunS PM.std) ds k = some r at h
  unfold laws_szKidRunS_w at h
  split at h
  · exact PM.pfun_ok (E := laws_szKidRunS_E PM.std (laws_szKidRun PM.std)) (L := fun n => laws_szKidRunS_L PM.std (laws_szKidRun PM.std) n) (N := PM.std.fuel) cx_ok (.cons laws_szKidRun_g .nil) mixed .nil laws_szKidRunS_fn (by kernel_rfl) ⟨rfl, fun cur σ K => by
      dsimp only [laws_szKidRunS_L]
      split <;> rfl, fun n cur σ K r h => by
      dsimp only [laws_szKidRunS_L] at h
      split at h
      · exact (laws_szKidRunS_l0_ok PM.std (laws_szKidRun PM.std) n _ _ _ K).symm.trans h
      · cases h⟩
      ((laws_szKidRunS_ok PM.std (laws_szKidRun PM.std) _ _ k).trans h)
  · cases h

abbrev laws_szFamily_T := (Int) → (Int) → (Int) → (Bool) → (List Int) → (List (List Int)) → (List (List Int)) → (List Int) → (List (List Int)) → (List (List PM.C)) → (Int) → ((Int) → PM.R) → PM.R
noncomputable def laws_szFamily_w (c : laws_szFamily_T) (ds : List PM.V) (k : PM.V → PM.R) : PM.R :=
  match ds with
  | [.agg [.int .i64 a_Rv, .int .i64 a_Clock, .int .i64 a_Owner, .bool a_Lost, .arr (.ints 3 .i64 a_Regs), .arr (.vecs 297 2 a_Start), .arr (.vecs 299 3 a_Buf), .arr (.ints 3 .i64 a_Order), .arr (.vecs 297 2 a_Reads), .arr (.rows 295 a_Kids)], .int .i64 left] => c a_Rv a_Clock a_Owner a_Lost a_Regs a_Start a_Buf a_Order a_Reads a_Kids left (fun r0 => k (.int .i64 r0))
  | _ => none
noncomputable def laws_szFamily_f (A : PM.Prims) (c_146 : laws_szIntS_T) (c_147 : laws_szRowS_T) (c_148 : laws_szEntryS_T) (c_149 : laws_szKidRunS_T) (a_Rv : Int) (a_Clock : Int) (a_Owner : Int) (a_Lost : Bool) (a_Regs : List Int) (a_Start : List (List Int)) (a_Buf : List (List Int)) (a_Order : List Int) (a_Reads : List (List Int)) (a_Kids : List (List PM.C)) (left : Int) (k : (Int) → PM.R) : PM.R :=
  c_146 a_Regs left (fun r1 =>
    bif (A.lt r1 0) then
      k (-1)
    else
      c_147 a_Start r1 (fun r2 =>
        bif (A.lt r2 0) then
          k (-1)
        else
          c_148 a_Buf r2 (fun r3 =>
            bif (A.lt r3 0) then
              k (-1)
            else
              c_146 a_Order r3 (fun r4 =>
                bif (A.lt r4 0) then
                  k (-1)
                else
                  c_147 a_Reads r4 (fun r5 =>
                    bif (A.lt r5 0) then
                      k (-1)
                    else
                      c_149 a_Kids r5 (fun r6 =>
                        bif (A.lt r6 0) then
                          k (-1)
                        else
                          k r6))))))
noncomputable def laws_szFamily (A : PM.Prims) : laws_szFamily_T := laws_szFamily_f A (laws_szIntS A) (laws_szRowS A) (laws_szEntryS A) (laws_szKidRunS A)
noncomputable def laws_szFamily_L (A : PM.Prims) (c_146 : laws_szIntS_T) (c_147 : laws_szRowS_T) (c_148 : laws_szEntryS_T) (c_149 : laws_szKidRunS_T) (n : Nat) : PM.Lam := fun cur σ K =>
  match cur, σ, K with
  | _, _, _ => none
noncomputable def laws_szFamily_E (A : PM.Prims) (c_146 : laws_szIntS_T) (c_147 : laws_szRowS_T) (c_148 : laws_szEntryS_T) (c_149 : laws_szKidRunS_T) : PM.Env := ⟨[(146, ⟨[], laws_szIntS_w c_146, none⟩), (147, ⟨[], laws_szRowS_w c_147, none⟩), (148, ⟨[], laws_szEntryS_w c_148, none⟩), (149, ⟨[], laws_szKidRunS_w c_149, none⟩)], [], [], [(0, [1, 2]), (1, [1, 2]), (2, [1, 2, 10]), (3, [4]), (4, [1, 2]), (5, [1, 2, 16]), (6, [4]), (7, [1, 2]), (8, [1, 2, 22]), (9, [4]), (10, [1, 2]), (11, [1, 2, 28]), (12, [4]), (13, [1, 2]), (14, [1, 2, 34]), (15, [4]), (16, [1]), (17, [1, 40]), (18, [4]), (19, [4])], laws_szFamily_L A c_146 c_147 c_148 c_149 A.fuel⟩
theorem laws_szFamily_ok (A : PM.Prims) (c_146 : laws_szIntS_T) (c_147 : laws_szRowS_T) (c_148 : laws_szEntryS_T) (c_149 : laws_szKidRunS_T) (a_Rv : Int) (a_Clock : Int) (a_Owner : Int) (a_Lost : Bool) (a_Regs : List Int) (a_Start : List (List Int)) (a_Buf : List (List Int)) (a_Order : List Int) (a_Reads : List (List Int)) (a_Kids : List (List PM.C)) (left : Int) (k : PM.V → PM.R) : PM.pfun A cx [] (laws_szFamily_E A c_146 c_147 c_148 c_149) Go.Proofs.Try.f57 [.agg [.int .i64 a_Rv, .int .i64 a_Clock, .int .i64 a_Owner, .bool a_Lost, .arr (.ints 3 .i64 a_Regs), .arr (.vecs 297 2 a_Start), .arr (.vecs 299 3 a_Buf), .arr (.ints 3 .i64 a_Order), .arr (.vecs 297 2 a_Reads), .arr (.rows 295 a_Kids)], .int .i64 left] k = laws_szFamily_f A c_146 c_147 c_148 c_149 a_Rv a_Clock a_Owner a_Lost a_Regs a_Start a_Buf a_Order a_Reads a_Kids left (fun r0 => k (.int .i64 r0)) := by kernel_rfl

theorem laws_szFamily_fn : PM.FnIs Try.prog 57 Try.f57 := .of Try.func57 (by kernel_rfl) (by kernel_rfl)
theorem laws_szFamily_g : PM.GOk Try.prog cx 57 ⟨[], laws_szFamily_w (laws_szFamily PM.std), none⟩ := by
  refine ⟨laws_szFamily_fn.enter, fun _ ds k r h => ?_, fun hm => absurd rfl hm, fun _ e => (by cases e)⟩
  change laws_szFamily_w (laws_szFamily PM.std) ds k = some r at h
  unfold laws_szFamily_w at h
  split at h
  · exact PM.pfun_ok (E := laws_szFamily_E PM.std (laws_szIntS PM.std) (laws_szRowS PM.std) (laws_szEntryS PM.std) (laws_szKidRunS PM.std)) (L := fun n => laws_szFamily_L PM.std (laws_szIntS PM.std) (laws_szRowS PM.std) (laws_szEntryS PM.std) (laws_szKidRunS PM.std) n) (N := PM.std.fuel) cx_ok (.cons laws_szIntS_g (.cons laws_szRowS_g (.cons laws_szEntryS_g (.cons laws_szKidRunS_g .nil)))) mixed .nil laws_szFamily_fn (by kernel_rfl) ⟨rfl, fun _ _ _ => rfl, fun n cur σ K r h => by cases h⟩
      ((laws_szFamily_ok PM.std (laws_szIntS PM.std) (laws_szRowS PM.std) (laws_szEntryS PM.std) (laws_szKidRunS PM.std) _ _ _ _ _ _ _ _ _ _ _ k).trans h)
  · cases h

abbrev laws_szRoot_T := (Int) → (Int) → (Int) → (Int) → (Int) → (Int) → (Int) → (Int) → (Int) → (Int) → (Int) → (Bool) → (List Int) → (List (List Int)) → (List (List Int)) → (List (List PM.C)) → (List (List Int)) → (List Int) → (Bool) → (Int) → (Int) → (Int) → (Int) → (Int) → (Int) → (Int) → (Int) → (Int) → (List (List Int)) → (List Int) → (Int) → (Int) → (Int) → (Bool) → (List Int) → (List (List Int)) → (List (List Int)) → (List Int) → (List (List Int)) → (List (List PM.C)) → (Int) → ((Int) → PM.R) → PM.R
noncomputable def laws_szRoot_w (c : laws_szRoot_T) (ds : List PM.V) (k : PM.V → PM.R) : PM.R :=
  match ds with
  | [.agg (.int .i64 a_Phase :: .int .i64 a_Tries :: .int .i64 a_Spare :: .int .i64 a_Pc :: .int .i64 a_Rv :: .int .i64 a_NewRv :: .int .i64 a_At :: .int .i64 a_Fate :: .int .i64 a_Stamp :: .int .i64 a_Began :: .int .i64 a_Ended :: .bool a_Doomed :: .arr (.ints 3 .i64 a_Regs) :: .arr (.vecs 297 2 a_Reads) :: .arr (.vecs 297 2 a_Writes) :: .arr (.rows 395 a_Marks) :: .arr (.vecs 401 3 a_Undos) :: .arr (.ints 3 .i64 a_Order) :: .bool a_Busy :: .int .i64 a_Probe_Cell :: .int .i64 a_Probe_Phase :: .int .i64 a_Probe_Ver :: .int .i64 a_Probe_Val :: .int .i64 a_Commit_Who :: .int .i64 a_Commit_Rv :: .int .i64 a_Commit_Phase :: .int .i64 a_Commit_At :: .int .i64 a_Commit_Wv :: .arr (.vecs 297 2 a_Commit_Puts) :: .arr (.ints 3 .i64 a_Commit_Reads) :: .int .i64 a_Fam_Rv :: .int .i64 a_Fam_Clock :: .int .i64 a_Fam_Owner :: .bool a_Fam_Lost :: .arr (.ints 3 .i64 a_Fam_Regs) :: .arr (.vecs 297 2 a_Fam_Start) :: .arr (.vecs 299 3 a_Fam_Buf) :: .arr (.ints 3 .i64 a_Fam_Order) :: .arr (.vecs 297 2 a_Fam_Reads) :: .arr (.rows 295 a_Fam_Kids) :: []), .int .i64 left] => c a_Phase a_Tries a_Spare a_Pc a_Rv a_NewRv a_At a_Fate a_Stamp a_Began a_Ended a_Doomed a_Regs a_Reads a_Writes a_Marks a_Undos a_Order a_Busy a_Probe_Cell a_Probe_Phase a_Probe_Ver a_Probe_Val a_Commit_Who a_Commit_Rv a_Commit_Phase a_Commit_At a_Commit_Wv a_Commit_Puts a_Commit_Reads a_Fam_Rv a_Fam_Clock a_Fam_Owner a_Fam_Lost a_Fam_Regs a_Fam_Start a_Fam_Buf a_Fam_Order a_Fam_Reads a_Fam_Kids left (fun r0 => k (.int .i64 r0))
  | _ => none
noncomputable def laws_szRoot_f (A : PM.Prims) (c_146 : laws_szIntS_T) (c_147 : laws_szRowS_T) (c_263 : laws_szMarkS_T) (c_264 : laws_szUndoS_T) (c_265 : laws_szCommit_T) (c_57 : laws_szFamily_T) (a_Phase : Int) (a_Tries : Int) (a_Spare : Int) (a_Pc : Int) (a_Rv : Int) (a_NewRv : Int) (a_At : Int) (a_Fate : Int) (a_Stamp : Int) (a_Began : Int) (a_Ended : Int) (a_Doomed : Bool) (a_Regs : List Int) (a_Reads : List (List Int)) (a_Writes : List (List Int)) (a_Marks : List (List PM.C)) (a_Undos : List (List Int)) (a_Order : List Int) (a_Busy : Bool) (a_Probe_Cell : Int) (a_Probe_Phase : Int) (a_Probe_Ver : Int) (a_Probe_Val : Int) (a_Commit_Who : Int) (a_Commit_Rv : Int) (a_Commit_Phase : Int) (a_Commit_At : Int) (a_Commit_Wv : Int) (a_Commit_Puts : List (List Int)) (a_Commit_Reads : List Int) (a_Fam_Rv : Int) (a_Fam_Clock : Int) (a_Fam_Owner : Int) (a_Fam_Lost : Bool) (a_Fam_Regs : List Int) (a_Fam_Start : List (List Int)) (a_Fam_Buf : List (List Int)) (a_Fam_Order : List Int) (a_Fam_Reads : List (List Int)) (a_Fam_Kids : List (List PM.C)) (left : Int) (k : (Int) → PM.R) : PM.R :=
  c_146 a_Regs left (fun r1 =>
    bif (A.lt r1 0) then
      k (-1)
    else
      c_147 a_Reads r1 (fun r2 =>
        bif (A.lt r2 0) then
          k (-1)
        else
          c_147 a_Writes r2 (fun r3 =>
            bif (A.lt r3 0) then
              k (-1)
            else
              c_263 a_Marks r3 (fun r4 =>
                bif (A.lt r4 0) then
                  k (-1)
                else
                  c_264 a_Undos r4 (fun r5 =>
                    bif (A.lt r5 0) then
                      k (-1)
                    else
                      c_146 a_Order r5 (fun r6 =>
                        bif (A.lt r6 0) then
                          k (-1)
                        else
                          c_265 a_Commit_Who a_Commit_Rv a_Commit_Phase a_Commit_At a_Commit_Wv a_Commit_Puts a_Commit_Reads r6 (fun r7 =>
                            bif (A.lt r7 0) then
                              k (-1)
                            else
                              c_57 a_Fam_Rv a_Fam_Clock a_Fam_Owner a_Fam_Lost a_Fam_Regs a_Fam_Start a_Fam_Buf a_Fam_Order a_Fam_Reads a_Fam_Kids r7 (fun r8 =>
                                bif (A.lt r8 0) then
                                  k (-1)
                                else
                                  k r8))))))))
noncomputable def laws_szRoot (A : PM.Prims) : laws_szRoot_T := laws_szRoot_f A (laws_szIntS A) (laws_szRowS A) (laws_szMarkS A) (laws_szUndoS A) (laws_szCommit A) (laws_szFamily A)
noncomputable def laws_szRoot_L (A : PM.Prims) (c_146 : laws_szIntS_T) (c_147 : laws_szRowS_T) (c_263 : laws_szMarkS_T) (c_264 : laws_szUndoS_T) (c_265 : laws_szCommit_T) (c_57 : laws_szFamily_T) (n : Nat) : PM.Lam := fun cur σ K =>
  match cur, σ, K with
  | _, _, _ => none
noncomputable def laws_szRoot_E (A : PM.Prims) (c_146 : laws_szIntS_T) (c_147 : laws_szRowS_T) (c_263 : laws_szMarkS_T) (c_264 : laws_szUndoS_T) (c_265 : laws_szCommit_T) (c_57 : laws_szFamily_T) : PM.Env := ⟨[(146, ⟨[], laws_szIntS_w c_146, none⟩), (147, ⟨[], laws_szRowS_w c_147, none⟩), (263, ⟨[], laws_szMarkS_w c_263, none⟩), (264, ⟨[], laws_szUndoS_w c_264, none⟩), (265, ⟨[], laws_szCommit_w c_265, none⟩), (57, ⟨[], laws_szFamily_w c_57, none⟩)], [], [], [(0, [1, 2]), (1, [1, 2]), (2, [1, 2, 10]), (3, [4]), (4, [1, 2]), (5, [1, 2, 16]), (6, [4]), (7, [1, 2]), (8, [1, 2, 22]), (9, [4]), (10, [1, 2]), (11, [1, 2, 28]), (12, [4]), (13, [1, 2]), (14, [1, 2, 34]), (15, [4]), (16, [1, 2]), (17, [1, 2, 40]), (18, [4]), (19, [1, 2]), (20, [1, 2, 46]), (21, [4]), (22, [1]), (23, [1, 52]), (24, [4]), (25, [4])], laws_szRoot_L A c_146 c_147 c_263 c_264 c_265 c_57 A.fuel⟩
theorem laws_szRoot_ok (A : PM.Prims) (c_146 : laws_szIntS_T) (c_147 : laws_szRowS_T) (c_263 : laws_szMarkS_T) (c_264 : laws_szUndoS_T) (c_265 : laws_szCommit_T) (c_57 : laws_szFamily_T) (a_Phase : Int) (a_Tries : Int) (a_Spare : Int) (a_Pc : Int) (a_Rv : Int) (a_NewRv : Int) (a_At : Int) (a_Fate : Int) (a_Stamp : Int) (a_Began : Int) (a_Ended : Int) (a_Doomed : Bool) (a_Regs : List Int) (a_Reads : List (List Int)) (a_Writes : List (List Int)) (a_Marks : List (List PM.C)) (a_Undos : List (List Int)) (a_Order : List Int) (a_Busy : Bool) (a_Probe_Cell : Int) (a_Probe_Phase : Int) (a_Probe_Ver : Int) (a_Probe_Val : Int) (a_Commit_Who : Int) (a_Commit_Rv : Int) (a_Commit_Phase : Int) (a_Commit_At : Int) (a_Commit_Wv : Int) (a_Commit_Puts : List (List Int)) (a_Commit_Reads : List Int) (a_Fam_Rv : Int) (a_Fam_Clock : Int) (a_Fam_Owner : Int) (a_Fam_Lost : Bool) (a_Fam_Regs : List Int) (a_Fam_Start : List (List Int)) (a_Fam_Buf : List (List Int)) (a_Fam_Order : List Int) (a_Fam_Reads : List (List Int)) (a_Fam_Kids : List (List PM.C)) (left : Int) (k : PM.V → PM.R) : PM.pfun A cx [] (laws_szRoot_E A c_146 c_147 c_263 c_264 c_265 c_57) Go.Proofs.Try.f200 [.agg (.int .i64 a_Phase :: .int .i64 a_Tries :: .int .i64 a_Spare :: .int .i64 a_Pc :: .int .i64 a_Rv :: .int .i64 a_NewRv :: .int .i64 a_At :: .int .i64 a_Fate :: .int .i64 a_Stamp :: .int .i64 a_Began :: .int .i64 a_Ended :: .bool a_Doomed :: .arr (.ints 3 .i64 a_Regs) :: .arr (.vecs 297 2 a_Reads) :: .arr (.vecs 297 2 a_Writes) :: .arr (.rows 395 a_Marks) :: .arr (.vecs 401 3 a_Undos) :: .arr (.ints 3 .i64 a_Order) :: .bool a_Busy :: .int .i64 a_Probe_Cell :: .int .i64 a_Probe_Phase :: .int .i64 a_Probe_Ver :: .int .i64 a_Probe_Val :: .int .i64 a_Commit_Who :: .int .i64 a_Commit_Rv :: .int .i64 a_Commit_Phase :: .int .i64 a_Commit_At :: .int .i64 a_Commit_Wv :: .arr (.vecs 297 2 a_Commit_Puts) :: .arr (.ints 3 .i64 a_Commit_Reads) :: .int .i64 a_Fam_Rv :: .int .i64 a_Fam_Clock :: .int .i64 a_Fam_Owner :: .bool a_Fam_Lost :: .arr (.ints 3 .i64 a_Fam_Regs) :: .arr (.vecs 297 2 a_Fam_Start) :: .arr (.vecs 299 3 a_Fam_Buf) :: .arr (.ints 3 .i64 a_Fam_Order) :: .arr (.vecs 297 2 a_Fam_Reads) :: .arr (.rows 295 a_Fam_Kids) :: []), .int .i64 left] k = laws_szRoot_f A c_146 c_147 c_263 c_264 c_265 c_57 a_Phase a_Tries a_Spare a_Pc a_Rv a_NewRv a_At a_Fate a_Stamp a_Began a_Ended a_Doomed a_Regs a_Reads a_Writes a_Marks a_Undos a_Order a_Busy a_Probe_Cell a_Probe_Phase a_Probe_Ver a_Probe_Val a_Commit_Who a_Commit_Rv a_Commit_Phase a_Commit_At a_Commit_Wv a_Commit_Puts a_Commit_Reads a_Fam_Rv a_Fam_Clock a_Fam_Owner a_Fam_Lost a_Fam_Regs a_Fam_Start a_Fam_Buf a_Fam_Order a_Fam_Reads a_Fam_Kids left (fun r0 => k (.int .i64 r0)) := by kernel_rfl

theorem laws_szRoot_fn : PM.FnIs Try.prog 200 Try.f200 := .of Try.func200 (by kernel_rfl) (by kernel_rfl)
theorem laws_szRoot_g : PM.GOk Try.prog cx 200 ⟨[], laws_szRoot_w (laws_szRoot PM.std), none⟩ := by
  refine ⟨laws_szRoot_fn.enter, fun _ ds k r h => ?_, fun hm => absurd rfl hm, fun _ e => (by cases e)⟩
  change laws_szRoot_w (laws_szRoot PM.std) ds k = some r at h
  unfold laws_szRoot_w at h
  split at h
  · exact PM.pfun_ok (E := laws_szRoot_E PM.std (laws_szIntS PM.std) (laws_szRowS PM.std) (laws_szMarkS PM.std) (laws_szUndoS PM.std) (laws_szCommit PM.std) (laws_szFamily PM.std)) (L := fun n => laws_szRoot_L PM.std (laws_szIntS PM.std) (laws_szRowS PM.std) (laws_szMarkS PM.std) (laws_szUndoS PM.std) (laws_szCommit PM.std) (laws_szFamily PM.std) n) (N := PM.std.fuel) cx_ok (.cons laws_szIntS_g (.cons laws_szRowS_g (.cons laws_szMarkS_g (.cons laws_szUndoS_g (.cons laws_szCommit_g (.cons laws_szFamily_g .nil)))))) mixed .nil laws_szRoot_fn (by kernel_rfl) ⟨rfl, fun _ _ _ => rfl, fun n cur σ K r h => by cases h⟩
      ((laws_szRoot_ok PM.std (laws_szIntS PM.std) (laws_szRowS PM.std) (laws_szMarkS PM.std) (laws_szUndoS PM.std) (laws_szCommit PM.std) (laws_szFamily PM.std) _ _ _ _ _ _ _ _ _ _ _ _ _ _ _ _ _ _ _ _ _ _ _ _ _ _ _ _ _ _ _ _ _ _ _ _ _ _ _ _ _ k).trans h)
  · cases h

abbrev laws_szRootS_T := (List (List PM.C)) → (Int) → ((Int) → PM.R) → PM.R
noncomputable def laws_szRootS_w (c : laws_szRootS_T) (ds : List PM.V) (k : PM.V → PM.R) : PM.R :=
  match ds with
  | [.arr (.rows 272 a), .int .i64 left] => c a left (fun r0 => k (.int .i64 r0))
  | _ => none
noncomputable def laws_szRootS_l0 (A : PM.Prims) (c_200 : laws_szRoot_T) : Nat → (List (List C)) → (Int) → (Int) → ((Int) → PM.R) → ((Int) → PM.R) → PM.R
  | 0, _, _, _, _, _ => none
  | n + 1, a1, left2, i3, kret_0, kx0_0 =>
    bif (A.lt i3 (A.rlen a1)) then
      bif (A.inb i3 (A.rlen a1)) then
        c_200 (A.rint a1 i3 0) (A.rint a1 i3 1) (A.rint a1 i3 2) (A.rint a1 i3 3) (A.rint a1 i3 4) (A.rint a1 i3 5) (A.rint a1 i3 6) (A.rint a1 i3 7) (A.rint a1 i3 8) (A.rint a1 i3 9) (A.rint a1 i3 10) (A.rbool a1 i3 11) (A.rsi a1 i3 12) (A.rsv 2 a1 i3 13) (A.rsv 2 a1 i3 14) (A.rsr a1 i3 15) (A.rsv 3 a1 i3 16) (A.rsi a1 i3 17) (A.rbool a1 i3 18) (A.rint a1 i3 19) (A.rint a1 i3 20) (A.rint a1 i3 21) (A.rint a1 i3 22) (A.rint a1 i3 23) (A.rint a1 i3 24) (A.rint a1 i3 25) (A.rint a1 i3 26) (A.rint a1 i3 27) (A.rsv 2 a1 i3 28) (A.rsi a1 i3 29) (A.rint a1 i3 30) (A.rint a1 i3 31) (A.rint a1 i3 32) (A.rbool a1 i3 33) (A.rsi a1 i3 34) (A.rsv 2 a1 i3 35) (A.rsv 3 a1 i3 36) (A.rsi a1 i3 37) (A.rsv 2 a1 i3 38) (A.rsr a1 i3 39) left2 (fun r4 =>
          bif (A.lt r4 0) then
            kret_0 (-1)
          else
            laws_szRootS_l0 A c_200 n a1 r4 (A.add .i64 i3 1) kret_0 kx0_0)
      else
        none
    else
      kx0_0 left2
noncomputable def laws_szRootS_f (A : PM.Prims) (c_200 : laws_szRoot_T) (a : List (List PM.C)) (left : Int) (k : (Int) → PM.R) : PM.R :=
  bif (A.lt (A.sub .i64 left (A.rlen a)) 0) then
    k (-1)
  else
    laws_szRootS_l0 A c_200 A.fuel a (A.sub .i64 left (A.rlen a)) 0 (fun t457 =>
      k t457) (fun left68 =>
      k left68)
noncomputable def laws_szRootS (A : PM.Prims) : laws_szRootS_T := laws_szRootS_f A (laws_szRoot A)
noncomputable def laws_szRootS_L (A : PM.Prims) (c_200 : laws_szRoot_T) (n : Nat) : PM.Lam := fun cur σ K =>
  match cur, σ, K with
  | 0, ⟨[(0, .arr (.rows 272 a1)), (1, .int .i64 left2), (5, .int .i64 i3)], []⟩, K => laws_szRootS_l0 A c_200 n a1 left2 i3 (fun t45 => K .ret ⟨[(4, .int .i64 t45)], []⟩) (fun left6 => K (.exit 0) ⟨[(1, .int .i64 left6)], []⟩)
  | _, _, _ => none
noncomputable def laws_szRootS_E (A : PM.Prims) (c_200 : laws_szRoot_T) : PM.Env := ⟨[(200, ⟨[], laws_szRoot_w c_200, none⟩)], [], [(0, [0, 1, 5], [1, 4])], [(0, [0, 1]), (1, [0, 1]), (2, [0, 1, 11]), (3, [4]), (4, [0, 1, 5]), (5, [0, 1, 5, 15]), (6, [0, 1, 5]), (7, [0, 1, 5]), (8, [0, 1, 5, 25]), (9, [4]), (10, [4])], laws_szRootS_L A c_200 A.fuel⟩
theorem laws_szRootS_l0_ok (A : PM.Prims) (c_200 : laws_szRoot_T) (n : Nat) (a1 : List (List C)) (left2 : Int) (i3 : Int) (K : Go.Exit → PM.S → PM.R) : laws_szRootS_L A c_200 (n + 1) 0 ⟨[(0, .arr (.rows 272 a1)), (1, .int .i64 left2), (5, .int .i64 i3)], []⟩ K = PM.roundF A cx (PM.runD A cx (laws_szRootS_E A c_200).inl (laws_szRootS_E A c_200).Γ 3) (laws_szRootS_E A c_200) (laws_szRootS_L A c_200 n) 0 Go.Proofs.Try.f111 ⟨[(0, .arr (.rows 272 a1)), (1, .int .i64 left2), (5, .int .i64 i3)], []⟩ K := by kernel_rfl
theorem laws_szRootS_ok (A : PM.Prims) (c_200 : laws_szRoot_T) (a : List (List PM.C)) (left : Int) (k : PM.V → PM.R) : PM.pfun A cx [] (laws_szRootS_E A c_200) Go.Proofs.Try.f111 [.arr (.rows 272 a), .int .i64 left] k = laws_szRootS_f A c_200 a left (fun r0 => k (.int .i64 r0)) := by kernel_rfl

theorem laws_szRootS_fn : PM.FnIs Try.prog 111 Try.f111 := .of Try.func111 (by kernel_rfl) (by kernel_rfl)
theorem laws_szRootS_g : PM.GOk Try.prog cx 111 ⟨[], laws_szRootS_w (laws_szRootS PM.std), none⟩ := by
  refine ⟨laws_szRootS_fn.enter, fun _ ds k r h => ?_, fun hm => absurd rfl hm, fun _ e => (by cases e)⟩
  change laws_szRootS_w (laws_szRootS PM.std) ds k = some r at h
  unfold laws_szRootS_w at h
  split at h
  · exact PM.pfun_ok (E := laws_szRootS_E PM.std (laws_szRoot PM.std)) (L := fun n => laws_szRootS_L PM.std (laws_szRoot PM.std) n) (N := PM.std.fuel) cx_ok (.cons laws_szRoot_g .nil) mixed .nil laws_szRootS_fn (by kernel_rfl) ⟨rfl, fun cur σ K => by
      dsimp only [laws_szRootS_L]
      split <;> rfl, fun n cur σ K r h => by
      dsimp only [laws_szRootS_L] at h
      split at h
      · exact (laws_szRootS_l0_ok PM.std (laws_szRoot PM.std) n _ _ _ K).symm.trans h
      · cases h⟩
      ((laws_szRootS_ok PM.std (laws_szRoot PM.std) _ _ k).trans h)
  · cases h

abbrev laws_szWrote_T := (Int) → (Int) → (List (List Int)) → (Int) → ((Int) → PM.R) → PM.R
noncomputable def laws_szWrote_w (c : laws_szWrote_T) (ds : List PM.V) (k : PM.V → PM.R) : PM.R :=
  match ds with
  | [.agg [.int .i64 a_Stamp, .int .i64 a_Who, .arr (.vecs 297 2 a_Puts)], .int .i64 left] => c a_Stamp a_Who a_Puts left (fun r0 => k (.int .i64 r0))
  | _ => none
noncomputable def laws_szWrote_f (A : PM.Prims) (c_147 : laws_szRowS_T) (a_Stamp : Int) (a_Who : Int) (a_Puts : List (List Int)) (left : Int) (k : (Int) → PM.R) : PM.R :=
  c_147 a_Puts left (fun r1 =>
    bif (A.lt r1 0) then
      k (-1)
    else
      k r1)
noncomputable def laws_szWrote (A : PM.Prims) : laws_szWrote_T := laws_szWrote_f A (laws_szRowS A)
noncomputable def laws_szWrote_L (A : PM.Prims) (c_147 : laws_szRowS_T) (n : Nat) : PM.Lam := fun cur σ K =>
  match cur, σ, K with
  | _, _, _ => none
noncomputable def laws_szWrote_E (A : PM.Prims) (c_147 : laws_szRowS_T) : PM.Env := ⟨[(147, ⟨[], laws_szRowS_w c_147, none⟩)], [], [], [(0, [1, 2]), (1, [1]), (2, [1, 10]), (3, [4]), (4, [4])], laws_szWrote_L A c_147 A.fuel⟩
theorem laws_szWrote_ok (A : PM.Prims) (c_147 : laws_szRowS_T) (a_Stamp : Int) (a_Who : Int) (a_Puts : List (List Int)) (left : Int) (k : PM.V → PM.R) : PM.pfun A cx [] (laws_szWrote_E A c_147) Go.Proofs.Try.f132 [.agg [.int .i64 a_Stamp, .int .i64 a_Who, .arr (.vecs 297 2 a_Puts)], .int .i64 left] k = laws_szWrote_f A c_147 a_Stamp a_Who a_Puts left (fun r0 => k (.int .i64 r0)) := by kernel_rfl

theorem laws_szWrote_fn : PM.FnIs Try.prog 132 Try.f132 := .of Try.func132 (by kernel_rfl) (by kernel_rfl)
theorem laws_szWrote_g : PM.GOk Try.prog cx 132 ⟨[], laws_szWrote_w (laws_szWrote PM.std), none⟩ := by
  refine ⟨laws_szWrote_fn.enter, fun _ ds k r h => ?_, fun hm => absurd rfl hm, fun _ e => (by cases e)⟩
  change laws_szWrote_w (laws_szWrote PM.std) ds k = some r at h
  unfold laws_szWrote_w at h
  split at h
  · exact PM.pfun_ok (E := laws_szWrote_E PM.std (laws_szRowS PM.std)) (L := fun n => laws_szWrote_L PM.std (laws_szRowS PM.std) n) (N := PM.std.fuel) cx_ok (.cons laws_szRowS_g .nil) mixed .nil laws_szWrote_fn (by kernel_rfl) ⟨rfl, fun _ _ _ => rfl, fun n cur σ K r h => by cases h⟩
      ((laws_szWrote_ok PM.std (laws_szRowS PM.std) _ _ _ _ k).trans h)
  · cases h

abbrev laws_szWroteS_T := (List (List PM.C)) → (Int) → ((Int) → PM.R) → PM.R
noncomputable def laws_szWroteS_w (c : laws_szWroteS_T) (ds : List PM.V) (k : PM.V → PM.R) : PM.R :=
  match ds with
  | [.arr (.rows 195 a), .int .i64 left] => c a left (fun r0 => k (.int .i64 r0))
  | _ => none
noncomputable def laws_szWroteS_l0 (A : PM.Prims) (c_132 : laws_szWrote_T) : Nat → (List (List C)) → (Int) → (Int) → ((Int) → PM.R) → ((Int) → PM.R) → PM.R
  | 0, _, _, _, _, _ => none
  | n + 1, a1, left2, i3, kret_0, kx0_0 =>
    bif (A.lt i3 (A.rlen a1)) then
      bif (A.inb i3 (A.rlen a1)) then
        c_132 (A.rint a1 i3 0) (A.rint a1 i3 1) (A.rsv 2 a1 i3 2) left2 (fun r4 =>
          bif (A.lt r4 0) then
            kret_0 (-1)
          else
            laws_szWroteS_l0 A c_132 n a1 r4 (A.add .i64 i3 1) kret_0 kx0_0)
      else
        none
    else
      kx0_0 left2
noncomputable def laws_szWroteS_f (A : PM.Prims) (c_132 : laws_szWrote_T) (a : List (List PM.C)) (left : Int) (k : (Int) → PM.R) : PM.R :=
  bif (A.lt (A.sub .i64 left (A.rlen a)) 0) then
    k (-1)
  else
    laws_szWroteS_l0 A c_132 A.fuel a (A.sub .i64 left (A.rlen a)) 0 (fun t457 =>
      k t457) (fun left68 =>
      k left68)
noncomputable def laws_szWroteS (A : PM.Prims) : laws_szWroteS_T := laws_szWroteS_f A (laws_szWrote A)
noncomputable def laws_szWroteS_L (A : PM.Prims) (c_132 : laws_szWrote_T) (n : Nat) : PM.Lam := fun cur σ K =>
  match cur, σ, K with
  | 0, ⟨[(0, .arr (.rows 195 a1)), (1, .int .i64 left2), (5, .int .i64 i3)], []⟩, K => laws_szWroteS_l0 A c_132 n a1 left2 i3 (fun t45 => K .ret ⟨[(4, .int .i64 t45)], []⟩) (fun left6 => K (.exit 0) ⟨[(1, .int .i64 left6)], []⟩)
  | _, _, _ => none
noncomputable def laws_szWroteS_E (A : PM.Prims) (c_132 : laws_szWrote_T) : PM.Env := ⟨[(132, ⟨[], laws_szWrote_w c_132, none⟩)], [], [(0, [0, 1, 5], [1, 4])], [(0, [0, 1]), (1, [0, 1]), (2, [0, 1, 11]), (3, [4]), (4, [0, 1, 5]), (5, [0, 1, 5, 15]), (6, [0, 1, 5]), (7, [0, 1, 5]), (8, [0, 1, 5, 25]), (9, [4]), (10, [4])], laws_szWroteS_L A c_132 A.fuel⟩
theorem laws_szWroteS_l0_ok (A : PM.Prims) (c_132 : laws_szWrote_T) (n : Nat) (a1 : List (List C)) (left2 : Int) (i3 : Int) (K : Go.Exit → PM.S → PM.R) : laws_szWroteS_L A c_132 (n + 1) 0 ⟨[(0, .arr (.rows 195 a1)), (1, .int .i64 left2), (5, .int .i64 i3)], []⟩ K = PM.roundF A cx (PM.runD A cx (laws_szWroteS_E A c_132).inl (laws_szWroteS_E A c_132).Γ 3) (laws_szWroteS_E A c_132) (laws_szWroteS_L A c_132 n) 0 Go.Proofs.Try.f42 ⟨[(0, .arr (.rows 195 a1)), (1, .int .i64 left2), (5, .int .i64 i3)], []⟩ K := by kernel_rfl
theorem laws_szWroteS_ok (A : PM.Prims) (c_132 : laws_szWrote_T) (a : List (List PM.C)) (left : Int) (k : PM.V → PM.R) : PM.pfun A cx [] (laws_szWroteS_E A c_132) Go.Proofs.Try.f42 [.arr (.rows 195 a), .int .i64 left] k = laws_szWroteS_f A c_132 a left (fun r0 => k (.int .i64 r0)) := by kernel_rfl

theorem laws_szWroteS_fn : PM.FnIs Try.prog 42 Try.f42 := .of Try.func42 (by kernel_rfl) (by kernel_rfl)
theorem laws_szWroteS_g : PM.GOk Try.prog cx 42 ⟨[], laws_szWroteS_w (laws_szWroteS PM.std), none⟩ := by
  refine ⟨laws_szWroteS_fn.enter, fun _ ds k r h => ?_, fun hm => absurd rfl hm, fun _ e => (by cases e)⟩
  change laws_szWroteS_w (laws_szWroteS PM.std) ds k = some r at h
  unfold laws_szWroteS_w at h
  split at h
  · exact PM.pfun_ok (E := laws_szWroteS_E PM.std (laws_szWrote PM.std)) (L := fun n => laws_szWroteS_L PM.std (laws_szWrote PM.std) n) (N := PM.std.fuel) cx_ok (.cons laws_szWrote_g .nil) mixed .nil laws_szWroteS_fn (by kernel_rfl) ⟨rfl, fun cur σ K => by
      dsimp only [laws_szWroteS_L]
      split <;> rfl, fun n cur σ K r h => by
      dsimp only [laws_szWroteS_L] at h
      split at h
      · exact (laws_szWroteS_l0_ok PM.std (laws_szWrote PM.std) n _ _ _ K).symm.trans h
      · cases h⟩
      ((laws_szWroteS_ok PM.std (laws_szWrote PM.std) _ _ k).trans h)
  · cases h

abbrev laws_szWorld_T := (Int) → (Int) → (Int) → (List (List Int)) → (List Int) → (Int) → (List (List Int)) → (List (List PM.C)) → (List (List PM.C)) → (Int) → ((Int) → PM.R) → PM.R
noncomputable def laws_szWorld_w (c : laws_szWorld_T) (ds : List PM.V) (k : PM.V → PM.R) : PM.R :=
  match ds with
  | [.agg [.int .i64 a_Now, .int .i64 a_Token, .int .i64 a_Mem_Clock, .arr (.vecs 354 3 a_Mem_Cells), .arr (.ints 3 .i64 a_Shelf_Slots), .int .i64 a_Shelf_Count, .arr (.vecs 277 3 a_Holds), .arr (.rows 272 a_Roots), .arr (.rows 195 a_Hist)], .int .i64 left] => c a_Now a_Token a_Mem_Clock a_Mem_Cells a_Shelf_Slots a_Shelf_Count a_Holds a_Roots a_Hist left (fun r0 => k (.int .i64 r0))
  | _ => none
noncomputable def laws_szWorld_f (A : PM.Prims) (c_108 : laws_szMem_T) (c_109 : laws_szShelf_T) (c_110 : laws_szHoldS_T) (c_111 : laws_szRootS_T) (c_42 : laws_szWroteS_T) (a_Now : Int) (a_Token : Int) (a_Mem_Clock : Int) (a_Mem_Cells : List (List Int)) (a_Shelf_Slots : List Int) (a_Shelf_Count : Int) (a_Holds : List (List Int)) (a_Roots : List (List PM.C)) (a_Hist : List (List PM.C)) (left : Int) (k : (Int) → PM.R) : PM.R :=
  c_108 a_Mem_Clock a_Mem_Cells left (fun r1 =>
    bif (A.lt r1 0) then
      k (-1)
    else
      c_109 a_Shelf_Slots a_Shelf_Count r1 (fun r2 =>
        bif (A.lt r2 0) then
          k (-1)
        else
          c_110 a_Holds r2 (fun r3 =>
            bif (A.lt r3 0) then
              k (-1)
            else
              c_111 a_Roots r3 (fun r4 =>
                bif (A.lt r4 0) then
                  k (-1)
                else
                  c_42 a_Hist r4 (fun r5 =>
                    bif (A.lt r5 0) then
                      k (-1)
                    else
                      k r5)))))
noncomputable def laws_szWorld (A : PM.Prims) : laws_szWorld_T := laws_szWorld_f A (laws_szMem A) (laws_szShelf A) (laws_szHoldS A) (laws_szRootS A) (laws_szWroteS A)
noncomputable def laws_szWorld_L (A : PM.Prims) (c_108 : laws_szMem_T) (c_109 : laws_szShelf_T) (c_110 : laws_szHoldS_T) (c_111 : laws_szRootS_T) (c_42 : laws_szWroteS_T) (n : Nat) : PM.Lam := fun cur σ K =>
  match cur, σ, K with
  | _, _, _ => none
noncomputable def laws_szWorld_E (A : PM.Prims) (c_108 : laws_szMem_T) (c_109 : laws_szShelf_T) (c_110 : laws_szHoldS_T) (c_111 : laws_szRootS_T) (c_42 : laws_szWroteS_T) : PM.Env := ⟨[(108, ⟨[], laws_szMem_w c_108, none⟩), (109, ⟨[], laws_szShelf_w c_109, none⟩), (110, ⟨[], laws_szHoldS_w c_110, none⟩), (111, ⟨[], laws_szRootS_w c_111, none⟩), (42, ⟨[], laws_szWroteS_w c_42, none⟩)], [], [], [(0, [1, 2]), (1, [1, 2]), (2, [1, 2, 10]), (3, [4]), (4, [1, 2]), (5, [1, 2, 16]), (6, [4]), (7, [1, 2]), (8, [1, 2, 22]), (9, [4]), (10, [1, 2]), (11, [1, 2, 28]), (12, [4]), (13, [1]), (14, [1, 34]), (15, [4]), (16, [4])], laws_szWorld_L A c_108 c_109 c_110 c_111 c_42 A.fuel⟩
theorem laws_szWorld_ok (A : PM.Prims) (c_108 : laws_szMem_T) (c_109 : laws_szShelf_T) (c_110 : laws_szHoldS_T) (c_111 : laws_szRootS_T) (c_42 : laws_szWroteS_T) (a_Now : Int) (a_Token : Int) (a_Mem_Clock : Int) (a_Mem_Cells : List (List Int)) (a_Shelf_Slots : List Int) (a_Shelf_Count : Int) (a_Holds : List (List Int)) (a_Roots : List (List PM.C)) (a_Hist : List (List PM.C)) (left : Int) (k : PM.V → PM.R) : PM.pfun A cx [] (laws_szWorld_E A c_108 c_109 c_110 c_111 c_42) Go.Proofs.Try.f30 [.agg [.int .i64 a_Now, .int .i64 a_Token, .int .i64 a_Mem_Clock, .arr (.vecs 354 3 a_Mem_Cells), .arr (.ints 3 .i64 a_Shelf_Slots), .int .i64 a_Shelf_Count, .arr (.vecs 277 3 a_Holds), .arr (.rows 272 a_Roots), .arr (.rows 195 a_Hist)], .int .i64 left] k = laws_szWorld_f A c_108 c_109 c_110 c_111 c_42 a_Now a_Token a_Mem_Clock a_Mem_Cells a_Shelf_Slots a_Shelf_Count a_Holds a_Roots a_Hist left (fun r0 => k (.int .i64 r0)) := by kernel_rfl

theorem laws_szWorld_fn : PM.FnIs Try.prog 30 Try.f30 := .of Try.func30 (by kernel_rfl) (by kernel_rfl)
theorem laws_szWorld_g : PM.GOk Try.prog cx 30 ⟨[], laws_szWorld_w (laws_szWorld PM.std), none⟩ := by
  refine ⟨laws_szWorld_fn.enter, fun _ ds k r h => ?_, fun hm => absurd rfl hm, fun _ e => (by cases e)⟩
  change laws_szWorld_w (laws_szWorld PM.std) ds k = some r at h
  unfold laws_szWorld_w at h
  split at h
  · exact PM.pfun_ok (E := laws_szWorld_E PM.std (laws_szMem PM.std) (laws_szShelf PM.std) (laws_szHoldS PM.std) (laws_szRootS PM.std) (laws_szWroteS PM.std)) (L := fun n => laws_szWorld_L PM.std (laws_szMem PM.std) (laws_szShelf PM.std) (laws_szHoldS PM.std) (laws_szRootS PM.std) (laws_szWroteS PM.std) n) (N := PM.std.fuel) cx_ok (.cons laws_szMem_g (.cons laws_szShelf_g (.cons laws_szHoldS_g (.cons laws_szRootS_g (.cons laws_szWroteS_g .nil))))) mixed .nil laws_szWorld_fn (by kernel_rfl) ⟨rfl, fun _ _ _ => rfl, fun n cur σ K r h => by cases h⟩
      ((laws_szWorld_ok PM.std (laws_szMem PM.std) (laws_szShelf PM.std) (laws_szHoldS PM.std) (laws_szRootS PM.std) (laws_szWroteS PM.std) _ _ _ _ _ _ _ _ _ _ k).trans h)
  · cases h

abbrev laws_toWord_T := (Int) → (Int) → (Int) → ((Int) → (Int) → (Int) → PM.R) → PM.R
noncomputable def laws_toWord_w (c : laws_toWord_T) (ds : List PM.V) (k : PM.V → PM.R) : PM.R :=
  match ds with
  | [.agg [.int .i64 a_Val, .int .i64 a_Ver, .int .i64 a_Owner]] => c a_Val a_Ver a_Owner (fun r0_Val r0_Ver r0_Owner => k (.agg [.int .i64 r0_Val, .int .i64 r0_Ver, .int .i64 r0_Owner]))
  | _ => none
noncomputable def laws_toWord_f (A : PM.Prims) (a_Val : Int) (a_Ver : Int) (a_Owner : Int) (k : (Int) → (Int) → (Int) → PM.R) : PM.R :=
  k a_Val a_Ver a_Owner
noncomputable def laws_toWord (A : PM.Prims) : laws_toWord_T := laws_toWord_f A
noncomputable def laws_toWord_L (A : PM.Prims) (n : Nat) : PM.Lam := fun cur σ K =>
  match cur, σ, K with
  | _, _, _ => none
noncomputable def laws_toWord_E (A : PM.Prims) : PM.Env := ⟨[], [], [], [(0, [1, 2]), (1, [1, 2, 3]), (2, [1, 2, 3]), (3, [1, 2, 3]), (4, [2, 3]), (5, [2])], laws_toWord_L A A.fuel⟩
theorem laws_toWord_ok (A : PM.Prims) (a_Val : Int) (a_Ver : Int) (a_Owner : Int) (k : PM.V → PM.R) : PM.pfun A cx [] (laws_toWord_E A) Go.Proofs.Try.f266 [.agg [.int .i64 a_Val, .int .i64 a_Ver, .int .i64 a_Owner]] k = laws_toWord_f A a_Val a_Ver a_Owner (fun r0_Val r0_Ver r0_Owner => k (.agg [.int .i64 r0_Val, .int .i64 r0_Ver, .int .i64 r0_Owner])) := by kernel_rfl

theorem laws_toWord_fn : PM.FnIs Try.prog 266 Try.f266 := .of Try.func266 (by kernel_rfl) (by kernel_rfl)
theorem laws_toWord_g : PM.GOk Try.prog cx 266 ⟨[], laws_toWord_w (laws_toWord PM.std), none⟩ := by
  refine ⟨laws_toWord_fn.enter, fun _ ds k r h => ?_, fun hm => absurd rfl hm, fun _ e => (by cases e)⟩
  change laws_toWord_w (laws_toWord PM.std) ds k = some r at h
  unfold laws_toWord_w at h
  split at h
  · exact PM.pfun_ok (E := laws_toWord_E PM.std) (L := fun n => laws_toWord_L PM.std n) (N := PM.std.fuel) cx_ok .nil mixed .nil laws_toWord_fn (by kernel_rfl) ⟨rfl, fun _ _ _ => rfl, fun n cur σ K r h => by cases h⟩
      ((laws_toWord_ok PM.std _ _ _ k).trans h)
  · cases h

abbrev laws_toWordS_T := (List (List Int)) → ((List (List Int)) → PM.R) → PM.R
noncomputable def laws_toWordS_w (c : laws_toWordS_T) (ds : List PM.V) (k : PM.V → PM.R) : PM.R :=
  match ds with
  | [.arr (.vecs 354 3 a)] => c a (fun r0 => k (.arr (.vecs 287 3 r0)))
  | _ => none
noncomputable def laws_toWordS_l0 (A : PM.Prims) (c_266 : laws_toWord_T) : Nat → (List (List Int)) → (Int) → (List (List Int)) → ((List (List Int)) → PM.R) → PM.R
  | 0, _, _, _, _ => none
  | n + 1, a1, i2, o03, kx0_0 =>
    bif (A.lt i2 (A.vlen a1)) then
      bif (A.inb i2 (A.vlen a1)) then
        c_266 (A.vget a1 i2 0) (A.vget a1 i2 1) (A.vget a1 i2 2) (fun r4 r5 r6 =>
          bif (A.inb i2 (A.vlen o03)) then
            laws_toWordS_l0 A c_266 n a1 (A.add .i64 i2 1) (A.vput o03 i2 [r4, r5, r6]) kx0_0
          else
            none)
      else
        none
    else
      kx0_0 o03
noncomputable def laws_toWordS_f (A : PM.Prims) (c_266 : laws_toWord_T) (a : List (List Int)) (k : (List (List Int)) → PM.R) : PM.R :=
  bif (A.mkOk (A.vlen a)) then
    bif (A.le (A.vlen a) (A.vlen a)) then
      bif (A.mkOk (A.vlen a)) then
        laws_toWordS_l0 A c_266 A.fuel a 0 (A.vzero 3 (A.vlen a)) (fun o078 =>
          k o078)
      else
        none
    else
      none
  else
    none
noncomputable def laws_toWordS (A : PM.Prims) : laws_toWordS_T := laws_toWordS_f A (laws_toWord A)
noncomputable def laws_toWordS_L (A : PM.Prims) (c_266 : laws_toWord_T) (n : Nat) : PM.Lam := fun cur σ K =>
  match cur, σ, K with
  | 0, ⟨[(0, .arr (.vecs 354 3 a1)), (3, .sref 0), (4, .int .i64 i2)], [(0, .arr true (.vecs 287 3 o03))]⟩, K => laws_toWordS_l0 A c_266 n a1 i2 o03 (fun o07 => K (.exit 0) ⟨[(3, .sref 0)], [(0, .arr true (.vecs 287 3 o07))]⟩)
  | _, _, _ => none
noncomputable def laws_toWordS_E (A : PM.Prims) (c_266 : laws_toWord_T) : PM.Env := ⟨[(266, ⟨[], laws_toWord_w c_266, none⟩)], [], [(0, [0, 3, 4], [2, 3])], [(0, [0]), (1, [0, 3]), (2, [0, 3, 4]), (3, [0, 3, 4, 11]), (4, [0, 3, 4]), (5, [0, 3, 4]), (6, [2])], laws_toWordS_L A c_266 A.fuel⟩
theorem laws_toWordS_l0_ok (A : PM.Prims) (c_266 : laws_toWord_T) (n : Nat) (a1 : List (List Int)) (i2 : Int) (o03 : List (List Int)) (K : Go.Exit → PM.S → PM.R) : laws_toWordS_L A c_266 (n + 1) 0 ⟨[(0, .arr (.vecs 354 3 a1)), (3, .sref 0), (4, .int .i64 i2)], [(0, .arr true (.vecs 287 3 o03))]⟩ K = PM.roundF A cx (PM.runD A cx (laws_toWordS_E A c_266).inl (laws_toWordS_E A c_266).Γ 3) (laws_toWordS_E A c_266) (laws_toWordS_L A c_266 n) 0 Go.Proofs.Try.f201 ⟨[(0, .arr (.vecs 354 3 a1)), (3, .sref 0), (4, .int .i64 i2)], [(0, .arr true (.vecs 287 3 o03))]⟩ K := by kernel_rfl
theorem laws_toWordS_ok (A : PM.Prims) (c_266 : laws_toWord_T) (a : List (List Int)) (k : PM.V → PM.R) : PM.pfun A cx [] (laws_toWordS_E A c_266) Go.Proofs.Try.f201 [.arr (.vecs 354 3 a)] k = laws_toWordS_f A c_266 a (fun r0 => k (.arr (.vecs 287 3 r0))) := by kernel_rfl

theorem laws_toWordS_fn : PM.FnIs Try.prog 201 Try.f201 := .of Try.func201 (by kernel_rfl) (by kernel_rfl)
theorem laws_toWordS_g : PM.GOk Try.prog cx 201 ⟨[], laws_toWordS_w (laws_toWordS PM.std), none⟩ := by
  refine ⟨laws_toWordS_fn.enter, fun _ ds k r h => ?_, fun hm => absurd rfl hm, fun _ e => (by cases e)⟩
  change laws_toWordS_w (laws_toWordS PM.std) ds k = some r at h
  unfold laws_toWordS_w at h
  split at h
  · exact PM.pfun_ok (E := laws_toWordS_E PM.std (laws_toWord PM.std)) (L := fun n => laws_toWordS_L PM.std (laws_toWord PM.std) n) (N := PM.std.fuel) cx_ok (.cons laws_toWord_g .nil) mixed .nil laws_toWordS_fn (by kernel_rfl) ⟨rfl, fun cur σ K => by
      dsimp only [laws_toWordS_L]
      split <;> rfl, fun n cur σ K r h => by
      dsimp only [laws_toWordS_L] at h
      split at h
      · exact (laws_toWordS_l0_ok PM.std (laws_toWord PM.std) n _ _ _ K).symm.trans h
      · cases h⟩
      ((laws_toWordS_ok PM.std (laws_toWord PM.std) _ k).trans h)
  · cases h

abbrev laws_toMem_T := (Int) → (List (List Int)) → ((Int) → (List (List Int)) → PM.R) → PM.R
noncomputable def laws_toMem_w (c : laws_toMem_T) (ds : List PM.V) (k : PM.V → PM.R) : PM.R :=
  match ds with
  | [.agg [.int .i64 a_Clock, .arr (.vecs 354 3 a_Cells)]] => c a_Clock a_Cells (fun r0_Clock r0_Cells => k (.agg [.int .i64 r0_Clock, .arr (.vecs 287 3 r0_Cells)]))
  | _ => none
noncomputable def laws_toMem_f (A : PM.Prims) (c_201 : laws_toWordS_T) (a_Clock : Int) (a_Cells : List (List Int)) (k : (Int) → (List (List Int)) → PM.R) : PM.R :=
  c_201 a_Cells (fun r1 =>
    k a_Clock r1)
noncomputable def laws_toMem (A : PM.Prims) : laws_toMem_T := laws_toMem_f A (laws_toWordS A)
noncomputable def laws_toMem_L (A : PM.Prims) (c_201 : laws_toWordS_T) (n : Nat) : PM.Lam := fun cur σ K =>
  match cur, σ, K with
  | _, _, _ => none
noncomputable def laws_toMem_E (A : PM.Prims) (c_201 : laws_toWordS_T) : PM.Env := ⟨[(201, ⟨[], laws_toWordS_w c_201, none⟩)], [], [], [(0, [1, 2]), (1, [1, 2, 3]), (2, [1, 2, 3]), (3, [2, 3]), (4, [2])], laws_toMem_L A c_201 A.fuel⟩
theorem laws_toMem_ok (A : PM.Prims) (c_201 : laws_toWordS_T) (a_Clock : Int) (a_Cells : List (List Int)) (k : PM.V → PM.R) : PM.pfun A cx [] (laws_toMem_E A c_201) Go.Proofs.Try.f112 [.agg [.int .i64 a_Clock, .arr (.vecs 354 3 a_Cells)]] k = laws_toMem_f A c_201 a_Clock a_Cells (fun r0_Clock r0_Cells => k (.agg [.int .i64 r0_Clock, .arr (.vecs 287 3 r0_Cells)])) := by kernel_rfl

theorem laws_toMem_fn : PM.FnIs Try.prog 112 Try.f112 := .of Try.func112 (by kernel_rfl) (by kernel_rfl)
theorem laws_toMem_g : PM.GOk Try.prog cx 112 ⟨[], laws_toMem_w (laws_toMem PM.std), none⟩ := by
  refine ⟨laws_toMem_fn.enter, fun _ ds k r h => ?_, fun hm => absurd rfl hm, fun _ e => (by cases e)⟩
  change laws_toMem_w (laws_toMem PM.std) ds k = some r at h
  unfold laws_toMem_w at h
  split at h
  · exact PM.pfun_ok (E := laws_toMem_E PM.std (laws_toWordS PM.std)) (L := fun n => laws_toMem_L PM.std (laws_toWordS PM.std) n) (N := PM.std.fuel) cx_ok (.cons laws_toWordS_g .nil) mixed .nil laws_toMem_fn (by kernel_rfl) ⟨rfl, fun _ _ _ => rfl, fun n cur σ K r h => by cases h⟩
      ((laws_toMem_ok PM.std (laws_toWordS PM.std) _ _ k).trans h)
  · cases h

abbrev laws_toIntS_T := (List Int) → ((List Int) → PM.R) → PM.R
noncomputable def laws_toIntS_w (c : laws_toIntS_T) (ds : List PM.V) (k : PM.V → PM.R) : PM.R :=
  match ds with
  | [.arr (.ints 3 .i64 a)] => c a (fun r0 => k (.arr (.ints 3 .i64 r0)))
  | _ => none
noncomputable def laws_toIntS_l0 (A : PM.Prims) : Nat → (List Int) → (Int) → (List Int) → ((List Int) → PM.R) → PM.R
  | 0, _, _, _, _ => none
  | n + 1, a1, i2, o03, kx0_0 =>
    bif (A.lt i2 (A.ilen a1)) then
      bif (A.inb i2 (A.ilen a1)) then
        bif (A.inb i2 (A.ilen o03)) then
          laws_toIntS_l0 A n a1 (A.add .i64 i2 1) (A.iset o03 i2 (A.iget a1 i2)) kx0_0
        else
          none
      else
        none
    else
      kx0_0 o03
noncomputable def laws_toIntS_f (A : PM.Prims) (a : List Int) (k : (List Int) → PM.R) : PM.R :=
  bif (A.mkOk (A.ilen a)) then
    bif (A.le (A.ilen a) (A.ilen a)) then
      bif (A.mkOk (A.ilen a)) then
        laws_toIntS_l0 A A.fuel a 0 (A.izero (A.ilen a)) (fun o045 =>
          k o045)
      else
        none
    else
      none
  else
    none
noncomputable def laws_toIntS (A : PM.Prims) : laws_toIntS_T := laws_toIntS_f A
noncomputable def laws_toIntS_L (A : PM.Prims) (n : Nat) : PM.Lam := fun cur σ K =>
  match cur, σ, K with
  | 0, ⟨[(0, .arr (.ints 3 .i64 a1)), (3, .sref 0), (4, .int .i64 i2)], [(0, .arr true (.ints 3 .i64 o03))]⟩, K => laws_toIntS_l0 A n a1 i2 o03 (fun o04 => K (.exit 0) ⟨[(3, .sref 0)], [(0, .arr true (.ints 3 .i64 o04))]⟩)
  | _, _, _ => none
noncomputable def laws_toIntS_E (A : PM.Prims) : PM.Env := ⟨[], [], [(0, [0, 3, 4], [2, 3])], [(0, [0]), (1, [0, 3]), (2, [0, 3, 4]), (3, [0, 3, 4, 11]), (4, [0, 3, 4]), (5, [0, 3, 4]), (6, [2])], laws_toIntS_L A A.fuel⟩
theorem laws_toIntS_l0_ok (A : PM.Prims) (n : Nat) (a1 : List Int) (i2 : Int) (o03 : List Int) (K : Go.Exit → PM.S → PM.R) : laws_toIntS_L A (n + 1) 0 ⟨[(0, .arr (.ints 3 .i64 a1)), (3, .sref 0), (4, .int .i64 i2)], [(0, .arr true (.ints 3 .i64 o03))]⟩ K = PM.roundF A cx (PM.runD A cx (laws_toIntS_E A).inl (laws_toIntS_E A).Γ 3) (laws_toIntS_E A) (laws_toIntS_L A n) 0 Go.Proofs.Try.f37 ⟨[(0, .arr (.ints 3 .i64 a1)), (3, .sref 0), (4, .int .i64 i2)], [(0, .arr true (.ints 3 .i64 o03))]⟩ K := by kernel_rfl
theorem laws_toIntS_ok (A : PM.Prims) (a : List Int) (k : PM.V → PM.R) : PM.pfun A cx [] (laws_toIntS_E A) Go.Proofs.Try.f37 [.arr (.ints 3 .i64 a)] k = laws_toIntS_f A a (fun r0 => k (.arr (.ints 3 .i64 r0))) := by kernel_rfl

theorem laws_toIntS_fn : PM.FnIs Try.prog 37 Try.f37 := .of Try.func37 (by kernel_rfl) (by kernel_rfl)
theorem laws_toIntS_g : PM.GOk Try.prog cx 37 ⟨[], laws_toIntS_w (laws_toIntS PM.std), none⟩ := by
  refine ⟨laws_toIntS_fn.enter, fun _ ds k r h => ?_, fun hm => absurd rfl hm, fun _ e => (by cases e)⟩
  change laws_toIntS_w (laws_toIntS PM.std) ds k = some r at h
  unfold laws_toIntS_w at h
  split at h
  · exact PM.pfun_ok (E := laws_toIntS_E PM.std) (L := fun n => laws_toIntS_L PM.std n) (N := PM.std.fuel) cx_ok .nil mixed .nil laws_toIntS_fn (by kernel_rfl) ⟨rfl, fun cur σ K => by
      dsimp only [laws_toIntS_L]
      split <;> rfl, fun n cur σ K r h => by
      dsimp only [laws_toIntS_L] at h
      split at h
      · exact (laws_toIntS_l0_ok PM.std n _ _ _ K).symm.trans h
      · cases h⟩
      ((laws_toIntS_ok PM.std _ k).trans h)
  · cases h

abbrev laws_toShelf_T := (List Int) → (Int) → ((List Int) → (Int) → PM.R) → PM.R
noncomputable def laws_toShelf_w (c : laws_toShelf_T) (ds : List PM.V) (k : PM.V → PM.R) : PM.R :=
  match ds with
  | [.agg [.arr (.ints 3 .i64 a_Slots), .int .i64 a_Count]] => c a_Slots a_Count (fun r0_Slots r0_Count => k (.agg [.arr (.ints 3 .i64 r0_Slots), .int .i64 r0_Count]))
  | _ => none
noncomputable def laws_toShelf_f (A : PM.Prims) (c_37 : laws_toIntS_T) (a_Slots : List Int) (a_Count : Int) (k : (List Int) → (Int) → PM.R) : PM.R :=
  c_37 a_Slots (fun r1 =>
    k r1 a_Count)
noncomputable def laws_toShelf (A : PM.Prims) : laws_toShelf_T := laws_toShelf_f A (laws_toIntS A)
noncomputable def laws_toShelf_L (A : PM.Prims) (c_37 : laws_toIntS_T) (n : Nat) : PM.Lam := fun cur σ K =>
  match cur, σ, K with
  | _, _, _ => none
noncomputable def laws_toShelf_E (A : PM.Prims) (c_37 : laws_toIntS_T) : PM.Env := ⟨[(37, ⟨[], laws_toIntS_w c_37, none⟩)], [], [], [(0, [1, 2]), (1, [1, 2, 3]), (2, [1, 2, 3]), (3, [2, 3]), (4, [2])], laws_toShelf_L A c_37 A.fuel⟩
theorem laws_toShelf_ok (A : PM.Prims) (c_37 : laws_toIntS_T) (a_Slots : List Int) (a_Count : Int) (k : PM.V → PM.R) : PM.pfun A cx [] (laws_toShelf_E A c_37) Go.Proofs.Try.f113 [.agg [.arr (.ints 3 .i64 a_Slots), .int .i64 a_Count]] k = laws_toShelf_f A c_37 a_Slots a_Count (fun r0_Slots r0_Count => k (.agg [.arr (.ints 3 .i64 r0_Slots), .int .i64 r0_Count])) := by kernel_rfl

theorem laws_toShelf_fn : PM.FnIs Try.prog 113 Try.f113 := .of Try.func113 (by kernel_rfl) (by kernel_rfl)
theorem laws_toShelf_g : PM.GOk Try.prog cx 113 ⟨[], laws_toShelf_w (laws_toShelf PM.std), none⟩ := by
  refine ⟨laws_toShelf_fn.enter, fun _ ds k r h => ?_, fun hm => absurd rfl hm, fun _ e => (by cases e)⟩
  change laws_toShelf_w (laws_toShelf PM.std) ds k = some r at h
  unfold laws_toShelf_w at h
  split at h
  · exact PM.pfun_ok (E := laws_toShelf_E PM.std (laws_toIntS PM.std)) (L := fun n => laws_toShelf_L PM.std (laws_toIntS PM.std) n) (N := PM.std.fuel) cx_ok (.cons laws_toIntS_g .nil) mixed .nil laws_toShelf_fn (by kernel_rfl) ⟨rfl, fun _ _ _ => rfl, fun n cur σ K r h => by cases h⟩
      ((laws_toShelf_ok PM.std (laws_toIntS PM.std) _ _ k).trans h)
  · cases h

abbrev laws_toHold_T := (Int) → (Int) → (Int) → ((Int) → (Int) → (Int) → PM.R) → PM.R
noncomputable def laws_toHold_w (c : laws_toHold_T) (ds : List PM.V) (k : PM.V → PM.R) : PM.R :=
  match ds with
  | [.agg [.int .i64 a_Who, .int .i64 a_What, .int .i64 a_Mode]] => c a_Who a_What a_Mode (fun r0_Who r0_What r0_Mode => k (.agg [.int .i64 r0_Who, .int .i64 r0_What, .int .i64 r0_Mode]))
  | _ => none
noncomputable def laws_toHold_f (A : PM.Prims) (a_Who : Int) (a_What : Int) (a_Mode : Int) (k : (Int) → (Int) → (Int) → PM.R) : PM.R :=
  k a_Who a_What a_Mode
noncomputable def laws_toHold (A : PM.Prims) : laws_toHold_T := laws_toHold_f A
noncomputable def laws_toHold_L (A : PM.Prims) (n : Nat) : PM.Lam := fun cur σ K =>
  match cur, σ, K with
  | _, _, _ => none
noncomputable def laws_toHold_E (A : PM.Prims) : PM.Env := ⟨[], [], [], [(0, [1, 2]), (1, [1, 2, 3]), (2, [1, 2, 3]), (3, [1, 2, 3]), (4, [2, 3]), (5, [2])], laws_toHold_L A A.fuel⟩
theorem laws_toHold_ok (A : PM.Prims) (a_Who : Int) (a_What : Int) (a_Mode : Int) (k : PM.V → PM.R) : PM.pfun A cx [] (laws_toHold_E A) Go.Proofs.Try.f202 [.agg [.int .i64 a_Who, .int .i64 a_What, .int .i64 a_Mode]] k = laws_toHold_f A a_Who a_What a_Mode (fun r0_Who r0_What r0_Mode => k (.agg [.int .i64 r0_Who, .int .i64 r0_What, .int .i64 r0_Mode])) := by kernel_rfl

theorem laws_toHold_fn : PM.FnIs Try.prog 202 Try.f202 := .of Try.func202 (by kernel_rfl) (by kernel_rfl)
theorem laws_toHold_g : PM.GOk Try.prog cx 202 ⟨[], laws_toHold_w (laws_toHold PM.std), none⟩ := by
  refine ⟨laws_toHold_fn.enter, fun _ ds k r h => ?_, fun hm => absurd rfl hm, fun _ e => (by cases e)⟩
  change laws_toHold_w (laws_toHold PM.std) ds k = some r at h
  unfold laws_toHold_w at h
  split at h
  · exact PM.pfun_ok (E := laws_toHold_E PM.std) (L := fun n => laws_toHold_L PM.std n) (N := PM.std.fuel) cx_ok .nil mixed .nil laws_toHold_fn (by kernel_rfl) ⟨rfl, fun _ _ _ => rfl, fun n cur σ K r h => by cases h⟩
      ((laws_toHold_ok PM.std _ _ _ k).trans h)
  · cases h

abbrev laws_toHoldS_T := (List (List Int)) → ((List (List Int)) → PM.R) → PM.R
noncomputable def laws_toHoldS_w (c : laws_toHoldS_T) (ds : List PM.V) (k : PM.V → PM.R) : PM.R :=
  match ds with
  | [.arr (.vecs 277 3 a)] => c a (fun r0 => k (.arr (.vecs 275 3 r0)))
  | _ => none
noncomputable def laws_toHoldS_l0 (A : PM.Prims) (c_202 : laws_toHold_T) : Nat → (List (List Int)) → (Int) → (List (List Int)) → ((List (List Int)) → PM.R) → PM.R
  | 0, _, _, _, _ => none
  | n + 1, a1, i2, o03, kx0_0 =>
    bif (A.lt i2 (A.vlen a1)) then
      bif (A.inb i2 (A.vlen a1)) then
        c_202 (A.vget a1 i2 0) (A.vget a1 i2 1) (A.vget a1 i2 2) (fun r4 r5 r6 =>
          bif (A.inb i2 (A.vlen o03)) then
            laws_toHoldS_l0 A c_202 n a1 (A.add .i64 i2 1) (A.vput o03 i2 [r4, r5, r6]) kx0_0
          else
            none)
      else
        none
    else
      kx0_0 o03
noncomputable def laws_toHoldS_f (A : PM.Prims) (c_202 : laws_toHold_T) (a : List (List Int)) (k : (List (List Int)) → PM.R) : PM.R :=
  bif (A.mkOk (A.vlen a)) then
    bif (A.le (A.vlen a) (A.vlen a)) then
      bif (A.mkOk (A.vlen a)) then
        laws_toHoldS_l0 A c_202 A.fuel a 0 (A.vzero 3 (A.vlen a)) (fun o078 =>
          k o078)
      else
        none
    else
      none
  else
    none
noncomputable def laws_toHoldS (A : PM.Prims) : laws_toHoldS_T := laws_toHoldS_f A (laws_toHold A)
noncomputable def laws_toHoldS_L (A : PM.Prims) (c_202 : laws_toHold_T) (n : Nat) : PM.Lam := fun cur σ K =>
  match cur, σ, K with
  | 0, ⟨[(0, .arr (.vecs 277 3 a1)), (3, .sref 0), (4, .int .i64 i2)], [(0, .arr true (.vecs 275 3 o03))]⟩, K => laws_toHoldS_l0 A c_202 n a1 i2 o03 (fun o07 => K (.exit 0) ⟨[(3, .sref 0)], [(0, .arr true (.vecs 275 3 o07))]⟩)
  | _, _, _ => none
noncomputable def laws_toHoldS_E (A : PM.Prims) (c_202 : laws_toHold_T) : PM.Env := ⟨[(202, ⟨[], laws_toHold_w c_202, none⟩)], [], [(0, [0, 3, 4], [2, 3])], [(0, [0]), (1, [0, 3]), (2, [0, 3, 4]), (3, [0, 3, 4, 11]), (4, [0, 3, 4]), (5, [0, 3, 4]), (6, [2])], laws_toHoldS_L A c_202 A.fuel⟩
theorem laws_toHoldS_l0_ok (A : PM.Prims) (c_202 : laws_toHold_T) (n : Nat) (a1 : List (List Int)) (i2 : Int) (o03 : List (List Int)) (K : Go.Exit → PM.S → PM.R) : laws_toHoldS_L A c_202 (n + 1) 0 ⟨[(0, .arr (.vecs 277 3 a1)), (3, .sref 0), (4, .int .i64 i2)], [(0, .arr true (.vecs 275 3 o03))]⟩ K = PM.roundF A cx (PM.runD A cx (laws_toHoldS_E A c_202).inl (laws_toHoldS_E A c_202).Γ 3) (laws_toHoldS_E A c_202) (laws_toHoldS_L A c_202 n) 0 Go.Proofs.Try.f114 ⟨[(0, .arr (.vecs 277 3 a1)), (3, .sref 0), (4, .int .i64 i2)], [(0, .arr true (.vecs 275 3 o03))]⟩ K := by kernel_rfl
theorem laws_toHoldS_ok (A : PM.Prims) (c_202 : laws_toHold_T) (a : List (List Int)) (k : PM.V → PM.R) : PM.pfun A cx [] (laws_toHoldS_E A c_202) Go.Proofs.Try.f114 [.arr (.vecs 277 3 a)] k = laws_toHoldS_f A c_202 a (fun r0 => k (.arr (.vecs 275 3 r0))) := by kernel_rfl

theorem laws_toHoldS_fn : PM.FnIs Try.prog 114 Try.f114 := .of Try.func114 (by kernel_rfl) (by kernel_rfl)
theorem laws_toHoldS_g : PM.GOk Try.prog cx 114 ⟨[], laws_toHoldS_w (laws_toHoldS PM.std), none⟩ := by
  refine ⟨laws_toHoldS_fn.enter, fun _ ds k r h => ?_, fun hm => absurd rfl hm, fun _ e => (by cases e)⟩
  change laws_toHoldS_w (laws_toHoldS PM.std) ds k = some r at h
  unfold laws_toHoldS_w at h
  split at h
  · exact PM.pfun_ok (E := laws_toHoldS_E PM.std (laws_toHold PM.std)) (L := fun n => laws_toHoldS_L PM.std (laws_toHold PM.std) n) (N := PM.std.fuel) cx_ok (.cons laws_toHold_g .nil) mixed .nil laws_toHoldS_fn (by kernel_rfl) ⟨rfl, fun cur σ K => by
      dsimp only [laws_toHoldS_L]
      split <;> rfl, fun n cur σ K r h => by
      dsimp only [laws_toHoldS_L] at h
      split at h
      · exact (laws_toHoldS_l0_ok PM.std (laws_toHold PM.std) n _ _ _ K).symm.trans h
      · cases h⟩
      ((laws_toHoldS_ok PM.std (laws_toHold PM.std) _ k).trans h)
  · cases h

abbrev laws_toRow_T := (Int) → (Int) → ((Int) → (Int) → PM.R) → PM.R
noncomputable def laws_toRow_w (c : laws_toRow_T) (ds : List PM.V) (k : PM.V → PM.R) : PM.R :=
  match ds with
  | [.agg [.int .i64 a_Cell, .int .i64 a_Val]] => c a_Cell a_Val (fun r0_Cell r0_Val => k (.agg [.int .i64 r0_Cell, .int .i64 r0_Val]))
  | _ => none
noncomputable def laws_toRow_f (A : PM.Prims) (a_Cell : Int) (a_Val : Int) (k : (Int) → (Int) → PM.R) : PM.R :=
  k a_Cell a_Val
noncomputable def laws_toRow (A : PM.Prims) : laws_toRow_T := laws_toRow_f A
noncomputable def laws_toRow_L (A : PM.Prims) (n : Nat) : PM.Lam := fun cur σ K =>
  match cur, σ, K with
  | _, _, _ => none
noncomputable def laws_toRow_E (A : PM.Prims) : PM.Env := ⟨[], [], [], [(0, [1, 2]), (1, [1, 2, 3]), (2, [1, 2, 3]), (3, [2, 3]), (4, [2])], laws_toRow_L A A.fuel⟩
theorem laws_toRow_ok (A : PM.Prims) (a_Cell : Int) (a_Val : Int) (k : PM.V → PM.R) : PM.pfun A cx [] (laws_toRow_E A) Go.Proofs.Try.f214 [.agg [.int .i64 a_Cell, .int .i64 a_Val]] k = laws_toRow_f A a_Cell a_Val (fun r0_Cell r0_Val => k (.agg [.int .i64 r0_Cell, .int .i64 r0_Val])) := by kernel_rfl

theorem laws_toRow_fn : PM.FnIs Try.prog 214 Try.f214 := .of Try.func214 (by kernel_rfl) (by kernel_rfl)
theorem laws_toRow_g : PM.GOk Try.prog cx 214 ⟨[], laws_toRow_w (laws_toRow PM.std), none⟩ := by
  refine ⟨laws_toRow_fn.enter, fun _ ds k r h => ?_, fun hm => absurd rfl hm, fun _ e => (by cases e)⟩
  change laws_toRow_w (laws_toRow PM.std) ds k = some r at h
  unfold laws_toRow_w at h
  split at h
  · exact PM.pfun_ok (E := laws_toRow_E PM.std) (L := fun n => laws_toRow_L PM.std n) (N := PM.std.fuel) cx_ok .nil mixed .nil laws_toRow_fn (by kernel_rfl) ⟨rfl, fun _ _ _ => rfl, fun n cur σ K r h => by cases h⟩
      ((laws_toRow_ok PM.std _ _ k).trans h)
  · cases h

abbrev laws_toRowS_T := (List (List Int)) → ((List (List Int)) → PM.R) → PM.R
noncomputable def laws_toRowS_w (c : laws_toRowS_T) (ds : List PM.V) (k : PM.V → PM.R) : PM.R :=
  match ds with
  | [.arr (.vecs 297 2 a)] => c a (fun r0 => k (.arr (.vecs 161 2 r0)))
  | _ => none
noncomputable def laws_toRowS_l0 (A : PM.Prims) (c_214 : laws_toRow_T) : Nat → (List (List Int)) → (Int) → (List (List Int)) → ((List (List Int)) → PM.R) → PM.R
  | 0, _, _, _, _ => none
  | n + 1, a1, i2, o03, kx0_0 =>
    bif (A.lt i2 (A.vlen a1)) then
      bif (A.inb i2 (A.vlen a1)) then
        c_214 (A.vget a1 i2 0) (A.vget a1 i2 1) (fun r4 r5 =>
          bif (A.inb i2 (A.vlen o03)) then
            laws_toRowS_l0 A c_214 n a1 (A.add .i64 i2 1) (A.vput o03 i2 [r4, r5]) kx0_0
          else
            none)
      else
        none
    else
      kx0_0 o03
noncomputable def laws_toRowS_f (A : PM.Prims) (c_214 : laws_toRow_T) (a : List (List Int)) (k : (List (List Int)) → PM.R) : PM.R :=
  bif (A.mkOk (A.vlen a)) then
    bif (A.le (A.vlen a) (A.vlen a)) then
      bif (A.mkOk (A.vlen a)) then
        laws_toRowS_l0 A c_214 A.fuel a 0 (A.vzero 2 (A.vlen a)) (fun o067 =>
          k o067)
      else
        none
    else
      none
  else
    none
noncomputable def laws_toRowS (A : PM.Prims) : laws_toRowS_T := laws_toRowS_f A (laws_toRow A)
noncomputable def laws_toRowS_L (A : PM.Prims) (c_214 : laws_toRow_T) (n : Nat) : PM.Lam := fun cur σ K =>
  match cur, σ, K with
  | 0, ⟨[(0, .arr (.vecs 297 2 a1)), (3, .sref 0), (4, .int .i64 i2)], [(0, .arr true (.vecs 161 2 o03))]⟩, K => laws_toRowS_l0 A c_214 n a1 i2 o03 (fun o06 => K (.exit 0) ⟨[(3, .sref 0)], [(0, .arr true (.vecs 161 2 o06))]⟩)
  | _, _, _ => none
noncomputable def laws_toRowS_E (A : PM.Prims) (c_214 : laws_toRow_T) : PM.Env := ⟨[(214, ⟨[], laws_toRow_w c_214, none⟩)], [], [(0, [0, 3, 4], [2, 3])], [(0, [0]), (1, [0, 3]), (2, [0, 3, 4]), (3, [0, 3, 4, 11]), (4, [0, 3, 4]), (5, [0, 3, 4]), (6, [2])], laws_toRowS_L A c_214 A.fuel⟩
theorem laws_toRowS_l0_ok (A : PM.Prims) (c_214 : laws_toRow_T) (n : Nat) (a1 : List (List Int)) (i2 : Int) (o03 : List (List Int)) (K : Go.Exit → PM.S → PM.R) : laws_toRowS_L A c_214 (n + 1) 0 ⟨[(0, .arr (.vecs 297 2 a1)), (3, .sref 0), (4, .int .i64 i2)], [(0, .arr true (.vecs 161 2 o03))]⟩ K = PM.roundF A cx (PM.runD A cx (laws_toRowS_E A c_214).inl (laws_toRowS_E A c_214).Γ 3) (laws_toRowS_E A c_214) (laws_toRowS_L A c_214 n) 0 Go.Proofs.Try.f150 ⟨[(0, .arr (.vecs 297 2 a1)), (3, .sref 0), (4, .int .i64 i2)], [(0, .arr true (.vecs 161 2 o03))]⟩ K := by kernel_rfl
theorem laws_toRowS_ok (A : PM.Prims) (c_214 : laws_toRow_T) (a : List (List Int)) (k : PM.V → PM.R) : PM.pfun A cx [] (laws_toRowS_E A c_214) Go.Proofs.Try.f150 [.arr (.vecs 297 2 a)] k = laws_toRowS_f A c_214 a (fun r0 => k (.arr (.vecs 161 2 r0))) := by kernel_rfl

theorem laws_toRowS_fn : PM.FnIs Try.prog 150 Try.f150 := .of Try.func150 (by kernel_rfl) (by kernel_rfl)
theorem laws_toRowS_g : PM.GOk Try.prog cx 150 ⟨[], laws_toRowS_w (laws_toRowS PM.std), none⟩ := by
  refine ⟨laws_toRowS_fn.enter, fun _ ds k r h => ?_, fun hm => absurd rfl hm, fun _ e => (by cases e)⟩
  change laws_toRowS_w (laws_toRowS PM.std) ds k = some r at h
  unfold laws_toRowS_w at h
  split at h
  · exact PM.pfun_ok (E := laws_toRowS_E PM.std (laws_toRow PM.std)) (L := fun n => laws_toRowS_L PM.std (laws_toRow PM.std) n) (N := PM.std.fuel) cx_ok (.cons laws_toRow_g .nil) mixed .nil laws_toRowS_fn (by kernel_rfl) ⟨rfl, fun cur σ K => by
      dsimp only [laws_toRowS_L]
      split <;> rfl, fun n cur σ K r h => by
      dsimp only [laws_toRowS_L] at h
      split at h
      · exact (laws_toRowS_l0_ok PM.std (laws_toRow PM.std) n _ _ _ K).symm.trans h
      · cases h⟩
      ((laws_toRowS_ok PM.std (laws_toRow PM.std) _ k).trans h)
  · cases h

abbrev laws_toMark_T := (Int) → (Int) → (Int) → (Int) → (List Int) → ((Int) → (Int) → (Int) → (Int) → (List Int) → PM.R) → PM.R
noncomputable def laws_toMark_w (c : laws_toMark_T) (ds : List PM.V) (k : PM.V → PM.R) : PM.R :=
  match ds with
  | [.agg [.int .i64 a_Pc, .int .i64 a_Reads, .int .i64 a_Writes, .int .i64 a_Undos, .arr (.ints 3 .i64 a_Regs)]] => c a_Pc a_Reads a_Writes a_Undos a_Regs (fun r0_Pc r0_Reads r0_Writes r0_Undos r0_Regs => k (.agg [.int .i64 r0_Pc, .int .i64 r0_Reads, .int .i64 r0_Writes, .int .i64 r0_Undos, .arr (.ints 3 .i64 r0_Regs)]))
  | _ => none
noncomputable def laws_toMark_f (A : PM.Prims) (c_37 : laws_toIntS_T) (a_Pc : Int) (a_Reads : Int) (a_Writes : Int) (a_Undos : Int) (a_Regs : List Int) (k : (Int) → (Int) → (Int) → (Int) → (List Int) → PM.R) : PM.R :=
  c_37 a_Regs (fun r1 =>
    k a_Pc a_Reads a_Writes a_Undos r1)
noncomputable def laws_toMark (A : PM.Prims) : laws_toMark_T := laws_toMark_f A (laws_toIntS A)
noncomputable def laws_toMark_L (A : PM.Prims) (c_37 : laws_toIntS_T) (n : Nat) : PM.Lam := fun cur σ K =>
  match cur, σ, K with
  | _, _, _ => none
noncomputable def laws_toMark_E (A : PM.Prims) (c_37 : laws_toIntS_T) : PM.Env := ⟨[(37, ⟨[], laws_toIntS_w c_37, none⟩)], [], [], [(0, [1, 2]), (1, [1, 2, 3]), (2, [1, 2, 3]), (3, [1, 2, 3]), (4, [1, 2, 3]), (5, [1, 2, 3]), (6, [2, 3]), (7, [2])], laws_toMark_L A c_37 A.fuel⟩
theorem laws_toMark_ok (A : PM.Prims) (c_37 : laws_toIntS_T) (a_Pc : Int) (a_Reads : Int) (a_Writes : Int) (a_Undos : Int) (a_Regs : List Int) (k : PM.V → PM.R) : PM.pfun A cx [] (laws_toMark_E A c_37) Go.Proofs.Try.f308 [.agg [.int .i64 a_Pc, .int .i64 a_Reads, .int .i64 a_Writes, .int .i64 a_Undos, .arr (.ints 3 .i64 a_Regs)]] k = laws_toMark_f A c_37 a_Pc a_Reads a_Writes a_Undos a_Regs (fun r0_Pc r0_Reads r0_Writes r0_Undos r0_Regs => k (.agg [.int .i64 r0_Pc, .int .i64 r0_Reads, .int .i64 r0_Writes, .int .i64 r0_Undos, .arr (.ints 3 .i64 r0_Regs)])) := by kernel_rfl

theorem laws_toMark_fn : PM.FnIs Try.prog 308 Try.f308 := .of Try.func308 (by kernel_rfl) (by kernel_rfl)
theorem laws_toMark_g : PM.GOk Try.prog cx 308 ⟨[], laws_toMark_w (laws_toMark PM.std), none⟩ := by
  refine ⟨laws_toMark_fn.enter, fun _ ds k r h => ?_, fun hm => absurd rfl hm, fun _ e => (by cases e)⟩
  change laws_toMark_w (laws_toMark PM.std) ds k = some r at h
  unfold laws_toMark_w at h
  split at h
  · exact PM.pfun_ok (E := laws_toMark_E PM.std (laws_toIntS PM.std)) (L := fun n => laws_toMark_L PM.std (laws_toIntS PM.std) n) (N := PM.std.fuel) cx_ok (.cons laws_toIntS_g .nil) mixed .nil laws_toMark_fn (by kernel_rfl) ⟨rfl, fun _ _ _ => rfl, fun n cur σ K r h => by cases h⟩
      ((laws_toMark_ok PM.std (laws_toIntS PM.std) _ _ _ _ _ k).trans h)
  · cases h

abbrev laws_toMarkS_T := (List (List PM.C)) → ((List (List PM.C)) → PM.R) → PM.R
noncomputable def laws_toMarkS_w (c : laws_toMarkS_T) (ds : List PM.V) (k : PM.V → PM.R) : PM.R :=
  match ds with
  | [.arr (.rows 395 a)] => c a (fun r0 => k (.arr (.rows 396 r0)))
  | _ => none
noncomputable def laws_toMarkS_l0 (A : PM.Prims) (c_308 : laws_toMark_T) : Nat → (List (List C)) → (Int) → (List (List C)) → ((List (List C)) → PM.R) → PM.R
  | 0, _, _, _, _ => none
  | n + 1, a1, i2, o03, kx0_0 =>
    bif (A.lt i2 (A.rlen a1)) then
      bif (A.inb i2 (A.rlen a1)) then
        c_308 (A.rint a1 i2 0) (A.rint a1 i2 1) (A.rint a1 i2 2) (A.rint a1 i2 3) (A.rsi a1 i2 4) (fun r4 r5 r6 r7 r8 =>
          bif (A.inb i2 (A.rlen o03)) then
            laws_toMarkS_l0 A c_308 n a1 (A.add .i64 i2 1) (A.rput o03 i2 [(.i r4), (.i r5), (.i r6), (.i r7), (.s (A.ofi r8))]) kx0_0
          else
            none)
      else
        none
    else
      kx0_0 o03
noncomputable def laws_toMarkS_f (A : PM.Prims) (c_308 : laws_toMark_T) (a : List (List PM.C)) (k : (List (List PM.C)) → PM.R) : PM.R :=
  bif (A.mkOk (A.rlen a)) then
    bif (A.le (A.rlen a) (A.rlen a)) then
      bif (A.mkOk (A.rlen a)) then
        laws_toMarkS_l0 A c_308 A.fuel a 0 (A.rzero [(.i 0), (.i 0), (.i 0), (.i 0), (.s (A.ofi []))] (A.rlen a)) (fun o0910 =>
          k o0910)
      else
        none
    else
      none
  else
    none
noncomputable def laws_toMarkS (A : PM.Prims) : laws_toMarkS_T := laws_toMarkS_f A (laws_toMark A)
noncomputable def laws_toMarkS_L (A : PM.Prims) (c_308 : laws_toMark_T) (n : Nat) : PM.Lam := fun cur σ K =>
  match cur, σ, K with
  | 0, ⟨[(0, .arr (.rows 395 a1)), (3, .sref 0), (4, .int .i64 i2)], [(0, .arr true (.rows 396 o03))]⟩, K => laws_toMarkS_l0 A c_308 n a1 i2 o03 (fun o09 => K (.exit 0) ⟨[(3, .sref 0)], [(0, .arr true (.rows 396 o09))]⟩)
  | _, _, _ => none
noncomputable def laws_toMarkS_E (A : PM.Prims) (c_308 : laws_toMark_T) : PM.Env := ⟨[(308, ⟨[], laws_toMark_w c_308, none⟩)], [], [(0, [0, 3, 4], [2, 3])], [(0, [0]), (1, [0, 3]), (2, [0, 3, 4]), (3, [0, 3, 4, 11]), (4, [0, 3, 4]), (5, [0, 3, 4]), (6, [2])], laws_toMarkS_L A c_308 A.fuel⟩
theorem laws_toMarkS_l0_ok (A : PM.Prims) (c_308 : laws_toMark_T) (n : Nat) (a1 : List (List C)) (i2 : Int) (o03 : List (List C)) (K : Go.Exit → PM.S → PM.R) : laws_toMarkS_L A c_308 (n + 1) 0 ⟨[(0, .arr (.rows 395 a1)), (3, .sref 0), (4, .int .i64 i2)], [(0, .arr true (.rows 396 o03))]⟩ K = PM.roundF A cx (PM.runD A cx (laws_toMarkS_E A c_308).inl (laws_toMarkS_E A c_308).Γ 3) (laws_toMarkS_E A c_308) (laws_toMarkS_L A c_308 n) 0 Go.Proofs.Try.f267 ⟨[(0, .arr (.rows 395 a1)), (3, .sref 0), (4, .int .i64 i2)], [(0, .arr true (.rows 396 o03))]⟩ K := by kernel_rfl
theorem laws_toMarkS_ok (A : PM.Prims) (c_308 : laws_toMark_T) (a : List (List PM.C)) (k : PM.V → PM.R) : PM.pfun A cx [] (laws_toMarkS_E A c_308) Go.Proofs.Try.f267 [.arr (.rows 395 a)] k = laws_toMarkS_f A c_308 a (fun r0 => k (.arr (.rows 396 r0))) := by kernel_rfl

theorem laws_toMarkS_fn : PM.FnIs Try.prog 267 Try.f267 := .of Try.func267 (by kernel_rfl) (by kernel_rfl)
theorem laws_toMarkS_g : PM.GOk Try.prog cx 267 ⟨[], laws_toMarkS_w (laws_toMarkS PM.std), none⟩ := by
  refine ⟨laws_toMarkS_fn.enter, fun _ ds k r h => ?_, fun hm => absurd rfl hm, fun _ e => (by cases e)⟩
  change laws_toMarkS_w (laws_toMarkS PM.std) ds k = some r at h
  unfold laws_toMarkS_w at h
  split at h
  · exact PM.pfun_ok (E := laws_toMarkS_E PM.std (laws_toMark PM.std)) (L := fun n => laws_toMarkS_L PM.std (laws_toMark PM.std) n) (N := PM.std.fuel) cx_ok (.cons laws_toMark_g .nil) mixed .nil laws_toMarkS_fn (by kernel_rfl) ⟨rfl, fun cur σ K => by
      dsimp only [laws_toMarkS_L]
      split <;> rfl, fun n cur σ K r h => by
      dsimp only [laws_toMarkS_L] at h
      split at h
      · exact (laws_toMarkS_l0_ok PM.std (laws_toMark PM.std) n _ _ _ K).symm.trans h
      · cases h⟩
      ((laws_toMarkS_ok PM.std (laws_toMark PM.std) _ k).trans h)
  · cases h

abbrev laws_toUndo_T := (Int) → (Int) → (Int) → ((Int) → (Int) → (Int) → PM.R) → PM.R
noncomputable def laws_toUndo_w (c : laws_toUndo_T) (ds : List PM.V) (k : PM.V → PM.R) : PM.R :=
  match ds with
  | [.agg [.int .i64 a_Kind, .int .i64 a_Key, .int .i64 a_Val]] => c a_Kind a_Key a_Val (fun r0_Kind r0_Key r0_Val => k (.agg [.int .i64 r0_Kind, .int .i64 r0_Key, .int .i64 r0_Val]))
  | _ => none
noncomputable def laws_toUndo_f (A : PM.Prims) (a_Kind : Int) (a_Key : Int) (a_Val : Int) (k : (Int) → (Int) → (Int) → PM.R) : PM.R :=
  k a_Kind a_Key a_Val
noncomputable def laws_toUndo (A : PM.Prims) : laws_toUndo_T := laws_toUndo_f A
noncomputable def laws_toUndo_L (A : PM.Prims) (n : Nat) : PM.Lam := fun cur σ K =>
  match cur, σ, K with
  | _, _, _ => none
noncomputable def laws_toUndo_E (A : PM.Prims) : PM.Env := ⟨[], [], [], [(0, [1, 2]), (1, [1, 2, 3]), (2, [1, 2, 3]), (3, [1, 2, 3]), (4, [2, 3]), (5, [2])], laws_toUndo_L A A.fuel⟩
theorem laws_toUndo_ok (A : PM.Prims) (a_Kind : Int) (a_Key : Int) (a_Val : Int) (k : PM.V → PM.R) : PM.pfun A cx [] (laws_toUndo_E A) Go.Proofs.Try.f309 [.agg [.int .i64 a_Kind, .int .i64 a_Key, .int .i64 a_Val]] k = laws_toUndo_f A a_Kind a_Key a_Val (fun r0_Kind r0_Key r0_Val => k (.agg [.int .i64 r0_Kind, .int .i64 r0_Key, .int .i64 r0_Val])) := by kernel_rfl

theorem laws_toUndo_fn : PM.FnIs Try.prog 309 Try.f309 := .of Try.func309 (by kernel_rfl) (by kernel_rfl)
theorem laws_toUndo_g : PM.GOk Try.prog cx 309 ⟨[], laws_toUndo_w (laws_toUndo PM.std), none⟩ := by
  refine ⟨laws_toUndo_fn.enter, fun _ ds k r h => ?_, fun hm => absurd rfl hm, fun _ e => (by cases e)⟩
  change laws_toUndo_w (laws_toUndo PM.std) ds k = some r at h
  unfold laws_toUndo_w at h
  split at h
  · exact PM.pfun_ok (E := laws_toUndo_E PM.std) (L := fun n => laws_toUndo_L PM.std n) (N := PM.std.fuel) cx_ok .nil mixed .nil laws_toUndo_fn (by kernel_rfl) ⟨rfl, fun _ _ _ => rfl, fun n cur σ K r h => by cases h⟩
      ((laws_toUndo_ok PM.std _ _ _ k).trans h)
  · cases h

abbrev laws_toUndoS_T := (List (List Int)) → ((List (List Int)) → PM.R) → PM.R
noncomputable def laws_toUndoS_w (c : laws_toUndoS_T) (ds : List PM.V) (k : PM.V → PM.R) : PM.R :=
  match ds with
  | [.arr (.vecs 401 3 a)] => c a (fun r0 => k (.arr (.vecs 399 3 r0)))
  | _ => none
noncomputable def laws_toUndoS_l0 (A : PM.Prims) (c_309 : laws_toUndo_T) : Nat → (List (List Int)) → (Int) → (List (List Int)) → ((List (List Int)) → PM.R) → PM.R
  | 0, _, _, _, _ => none
  | n + 1, a1, i2, o03, kx0_0 =>
    bif (A.lt i2 (A.vlen a1)) then
      bif (A.inb i2 (A.vlen a1)) then
        c_309 (A.vget a1 i2 0) (A.vget a1 i2 1) (A.vget a1 i2 2) (fun r4 r5 r6 =>
          bif (A.inb i2 (A.vlen o03)) then
            laws_toUndoS_l0 A c_309 n a1 (A.add .i64 i2 1) (A.vput o03 i2 [r4, r5, r6]) kx0_0
          else
            none)
      else
        none
    else
      kx0_0 o03
noncomputable def laws_toUndoS_f (A : PM.Prims) (c_309 : laws_toUndo_T) (a : List (List Int)) (k : (List (List Int)) → PM.R) : PM.R :=
  bif (A.mkOk (A.vlen a)) then
    bif (A.le (A.vlen a) (A.vlen a)) then
      bif (A.mkOk (A.vlen a)) then
        laws_toUndoS_l0 A c_309 A.fuel a 0 (A.vzero 3 (A.vlen a)) (fun o078 =>
          k o078)
      else
        none
    else
      none
  else
    none
noncomputable def laws_toUndoS (A : PM.Prims) : laws_toUndoS_T := laws_toUndoS_f A (laws_toUndo A)
noncomputable def laws_toUndoS_L (A : PM.Prims) (c_309 : laws_toUndo_T) (n : Nat) : PM.Lam := fun cur σ K =>
  match cur, σ, K with
  | 0, ⟨[(0, .arr (.vecs 401 3 a1)), (3, .sref 0), (4, .int .i64 i2)], [(0, .arr true (.vecs 399 3 o03))]⟩, K => laws_toUndoS_l0 A c_309 n a1 i2 o03 (fun o07 => K (.exit 0) ⟨[(3, .sref 0)], [(0, .arr true (.vecs 399 3 o07))]⟩)
  | _, _, _ => none
noncomputable def laws_toUndoS_E (A : PM.Prims) (c_309 : laws_toUndo_T) : PM.Env := ⟨[(309, ⟨[], laws_toUndo_w c_309, none⟩)], [], [(0, [0, 3, 4], [2, 3])], [(0, [0]), (1, [0, 3]), (2, [0, 3, 4]), (3, [0, 3, 4, 11]), (4, [0, 3, 4]), (5, [0, 3, 4]), (6, [2])], laws_toUndoS_L A c_309 A.fuel⟩
theorem laws_toUndoS_l0_ok (A : PM.Prims) (c_309 : laws_toUndo_T) (n : Nat) (a1 : List (List Int)) (i2 : Int) (o03 : List (List Int)) (K : Go.Exit → PM.S → PM.R) : laws_toUndoS_L A c_309 (n + 1) 0 ⟨[(0, .arr (.vecs 401 3 a1)), (3, .sref 0), (4, .int .i64 i2)], [(0, .arr true (.vecs 399 3 o03))]⟩ K = PM.roundF A cx (PM.runD A cx (laws_toUndoS_E A c_309).inl (laws_toUndoS_E A c_309).Γ 3) (laws_toUndoS_E A c_309) (laws_toUndoS_L A c_309 n) 0 Go.Proofs.Try.f268 ⟨[(0, .arr (.vecs 401 3 a1)), (3, .sref 0), (4, .int .i64 i2)], [(0, .arr true (.vecs 399 3 o03))]⟩ K := by kernel_rfl
theorem laws_toUndoS_ok (A : PM.Prims) (c_309 : laws_toUndo_T) (a : List (List Int)) (k : PM.V → PM.R) : PM.pfun A cx [] (laws_toUndoS_E A c_309) Go.Proofs.Try.f268 [.arr (.vecs 401 3 a)] k = laws_toUndoS_f A c_309 a (fun r0 => k (.arr (.vecs 399 3 r0))) := by kernel_rfl

theorem laws_toUndoS_fn : PM.FnIs Try.prog 268 Try.f268 := .of Try.func268 (by kernel_rfl) (by kernel_rfl)
theorem laws_toUndoS_g : PM.GOk Try.prog cx 268 ⟨[], laws_toUndoS_w (laws_toUndoS PM.std), none⟩ := by
  refine ⟨laws_toUndoS_fn.enter, fun _ ds k r h => ?_, fun hm => absurd rfl hm, fun _ e => (by cases e)⟩
  change laws_toUndoS_w (laws_toUndoS PM.std) ds k = some r at h
  unfold laws_toUndoS_w at h
  split at h
  · exact PM.pfun_ok (E := laws_toUndoS_E PM.std (laws_toUndo PM.std)) (L := fun n => laws_toUndoS_L PM.std (laws_toUndo PM.std) n) (N := PM.std.fuel) cx_ok (.cons laws_toUndo_g .nil) mixed .nil laws_toUndoS_fn (by kernel_rfl) ⟨rfl, fun cur σ K => by
      dsimp only [laws_toUndoS_L]
      split <;> rfl, fun n cur σ K r h => by
      dsimp only [laws_toUndoS_L] at h
      split at h
      · exact (laws_toUndoS_l0_ok PM.std (laws_toUndo PM.std) n _ _ _ K).symm.trans h
      · cases h⟩
      ((laws_toUndoS_ok PM.std (laws_toUndo PM.std) _ k).trans h)
  · cases h

abbrev laws_toProbe_T := (Int) → (Int) → (Int) → (Int) → ((Int) → (Int) → (Int) → (Int) → PM.R) → PM.R
noncomputable def laws_toProbe_w (c : laws_toProbe_T) (ds : List PM.V) (k : PM.V → PM.R) : PM.R :=
  match ds with
  | [.agg [.int .i64 a_Cell, .int .i64 a_Phase, .int .i64 a_Ver, .int .i64 a_Val]] => c a_Cell a_Phase a_Ver a_Val (fun r0_Cell r0_Phase r0_Ver r0_Val => k (.agg [.int .i64 r0_Cell, .int .i64 r0_Phase, .int .i64 r0_Ver, .int .i64 r0_Val]))
  | _ => none
noncomputable def laws_toProbe_f (A : PM.Prims) (a_Cell : Int) (a_Phase : Int) (a_Ver : Int) (a_Val : Int) (k : (Int) → (Int) → (Int) → (Int) → PM.R) : PM.R :=
  k a_Cell a_Phase a_Ver a_Val
noncomputable def laws_toProbe (A : PM.Prims) : laws_toProbe_T := laws_toProbe_f A
noncomputable def laws_toProbe_L (A : PM.Prims) (n : Nat) : PM.Lam := fun cur σ K =>
  match cur, σ, K with
  | _, _, _ => none
noncomputable def laws_toProbe_E (A : PM.Prims) : PM.Env := ⟨[], [], [], [(0, [1, 2]), (1, [1, 2, 3]), (2, [1, 2, 3]), (3, [1, 2, 3]), (4, [1, 2, 3]), (5, [2, 3]), (6, [2])], laws_toProbe_L A A.fuel⟩
theorem laws_toProbe_ok (A : PM.Prims) (a_Cell : Int) (a_Phase : Int) (a_Ver : Int) (a_Val : Int) (k : PM.V → PM.R) : PM.pfun A cx [] (laws_toProbe_E A) Go.Proofs.Try.f269 [.agg [.int .i64 a_Cell, .int .i64 a_Phase, .int .i64 a_Ver, .int .i64 a_Val]] k = laws_toProbe_f A a_Cell a_Phase a_Ver a_Val (fun r0_Cell r0_Phase r0_Ver r0_Val => k (.agg [.int .i64 r0_Cell, .int .i64 r0_Phase, .int .i64 r0_Ver, .int .i64 r0_Val])) := by kernel_rfl

theorem laws_toProbe_fn : PM.FnIs Try.prog 269 Try.f269 := .of Try.func269 (by kernel_rfl) (by kernel_rfl)
theorem laws_toProbe_g : PM.GOk Try.prog cx 269 ⟨[], laws_toProbe_w (laws_toProbe PM.std), none⟩ := by
  refine ⟨laws_toProbe_fn.enter, fun _ ds k r h => ?_, fun hm => absurd rfl hm, fun _ e => (by cases e)⟩
  change laws_toProbe_w (laws_toProbe PM.std) ds k = some r at h
  unfold laws_toProbe_w at h
  split at h
  · exact PM.pfun_ok (E := laws_toProbe_E PM.std) (L := fun n => laws_toProbe_L PM.std n) (N := PM.std.fuel) cx_ok .nil mixed .nil laws_toProbe_fn (by kernel_rfl) ⟨rfl, fun _ _ _ => rfl, fun n cur σ K r h => by cases h⟩
      ((laws_toProbe_ok PM.std _ _ _ _ k).trans h)
  · cases h

abbrev laws_toCommit_T := (Int) → (Int) → (Int) → (Int) → (Int) → (List (List Int)) → (List Int) → ((Int) → (Int) → (Int) → (Int) → (Int) → (List (List Int)) → (List Int) → PM.R) → PM.R
noncomputable def laws_toCommit_w (c : laws_toCommit_T) (ds : List PM.V) (k : PM.V → PM.R) : PM.R :=
  match ds with
  | [.agg [.int .i64 a_Who, .int .i64 a_Rv, .int .i64 a_Phase, .int .i64 a_At, .int .i64 a_Wv, .arr (.vecs 297 2 a_Puts), .arr (.ints 3 .i64 a_Reads)]] => c a_Who a_Rv a_Phase a_At a_Wv a_Puts a_Reads (fun r0_Who r0_Rv r0_Phase r0_At r0_Wv r0_Puts r0_Reads => k (.agg [.int .i64 r0_Who, .int .i64 r0_Rv, .int .i64 r0_Phase, .int .i64 r0_At, .int .i64 r0_Wv, .arr (.vecs 161 2 r0_Puts), .arr (.ints 3 .i64 r0_Reads)]))
  | _ => none
noncomputable def laws_toCommit_f (A : PM.Prims) (c_37 : laws_toIntS_T) (c_150 : laws_toRowS_T) (a_Who : Int) (a_Rv : Int) (a_Phase : Int) (a_At : Int) (a_Wv : Int) (a_Puts : List (List Int)) (a_Reads : List Int) (k : (Int) → (Int) → (Int) → (Int) → (Int) → (List (List Int)) → (List Int) → PM.R) : PM.R :=
  c_150 a_Puts (fun r1 =>
    c_37 a_Reads (fun r2 =>
      k a_Who a_Rv a_Phase a_At a_Wv r1 r2))
noncomputable def laws_toCommit (A : PM.Prims) : laws_toCommit_T := laws_toCommit_f A (laws_toIntS A) (laws_toRowS A)
noncomputable def laws_toCommit_L (A : PM.Prims) (c_37 : laws_toIntS_T) (c_150 : laws_toRowS_T) (n : Nat) : PM.Lam := fun cur σ K =>
  match cur, σ, K with
  | _, _, _ => none
noncomputable def laws_toCommit_E (A : PM.Prims) (c_37 : laws_toIntS_T) (c_150 : laws_toRowS_T) : PM.Env := ⟨[(37, ⟨[], laws_toIntS_w c_37, none⟩), (150, ⟨[], laws_toRowS_w c_150, none⟩)], [], [], [(0, [1, 2]), (1, [1, 2, 3]), (2, [1, 2, 3]), (3, [1, 2, 3]), (4, [1, 2, 3]), (5, [1, 2, 3]), (6, [1, 2, 3]), (7, [1, 2, 3]), (8, [2, 3]), (9, [2])], laws_toCommit_L A c_37 c_150 A.fuel⟩
theorem laws_toCommit_ok (A : PM.Prims) (c_37 : laws_toIntS_T) (c_150 : laws_toRowS_T) (a_Who : Int) (a_Rv : Int) (a_Phase : Int) (a_At : Int) (a_Wv : Int) (a_Puts : List (List Int)) (a_Reads : List Int) (k : PM.V → PM.R) : PM.pfun A cx [] (laws_toCommit_E A c_37 c_150) Go.Proofs.Try.f270 [.agg [.int .i64 a_Who, .int .i64 a_Rv, .int .i64 a_Phase, .int .i64 a_At, .int .i64 a_Wv, .arr (.vecs 297 2 a_Puts), .arr (.ints 3 .i64 a_Reads)]] k = laws_toCommit_f A c_37 c_150 a_Who a_Rv a_Phase a_At a_Wv a_Puts a_Reads (fun r0_Who r0_Rv r0_Phase r0_At r0_Wv r0_Puts r0_Reads => k (.agg [.int .i64 r0_Who, .int .i64 r0_Rv, .int .i64 r0_Phase, .int .i64 r0_At, .int .i64 r0_Wv, .arr (.vecs 161 2 r0_Puts), .arr (.ints 3 .i64 r0_Reads)])) := by kernel_rfl

theorem laws_toCommit_fn : PM.FnIs Try.prog 270 Try.f270 := .of Try.func270 (by kernel_rfl) (by kernel_rfl)
theorem laws_toCommit_g : PM.GOk Try.prog cx 270 ⟨[], laws_toCommit_w (laws_toCommit PM.std), none⟩ := by
  refine ⟨laws_toCommit_fn.enter, fun _ ds k r h => ?_, fun hm => absurd rfl hm, fun _ e => (by cases e)⟩
  change laws_toCommit_w (laws_toCommit PM.std) ds k = some r at h
  unfold laws_toCommit_w at h
  split at h
  · exact PM.pfun_ok (E := laws_toCommit_E PM.std (laws_toIntS PM.std) (laws_toRowS PM.std)) (L := fun n => laws_toCommit_L PM.std (laws_toIntS PM.std) (laws_toRowS PM.std) n) (N := PM.std.fuel) cx_ok (.cons laws_toIntS_g (.cons laws_toRowS_g .nil)) mixed .nil laws_toCommit_fn (by kernel_rfl) ⟨rfl, fun _ _ _ => rfl, fun n cur σ K r h => by cases h⟩
      ((laws_toCommit_ok PM.std (laws_toIntS PM.std) (laws_toRowS PM.std) _ _ _ _ _ _ _ k).trans h)
  · cases h

abbrev laws_toEntry_T := (Int) → (Int) → (Int) → ((Int) → (Int) → (Int) → PM.R) → PM.R
noncomputable def laws_toEntry_w (c : laws_toEntry_T) (ds : List PM.V) (k : PM.V → PM.R) : PM.R :=
  match ds with
  | [.agg [.int .i64 a_Cell, .int .i64 a_Val, .int .i64 a_Ver]] => c a_Cell a_Val a_Ver (fun r0_Cell r0_Val r0_Ver => k (.agg [.int .i64 r0_Cell, .int .i64 r0_Val, .int .i64 r0_Ver]))
  | _ => none
noncomputable def laws_toEntry_f (A : PM.Prims) (a_Cell : Int) (a_Val : Int) (a_Ver : Int) (k : (Int) → (Int) → (Int) → PM.R) : PM.R :=
  k a_Cell a_Val a_Ver
noncomputable def laws_toEntry (A : PM.Prims) : laws_toEntry_T := laws_toEntry_f A
noncomputable def laws_toEntry_L (A : PM.Prims) (n : Nat) : PM.Lam := fun cur σ K =>
  match cur, σ, K with
  | _, _, _ => none
noncomputable def laws_toEntry_E (A : PM.Prims) : PM.Env := ⟨[], [], [], [(0, [1, 2]), (1, [1, 2, 3]), (2, [1, 2, 3]), (3, [1, 2, 3]), (4, [2, 3]), (5, [2])], laws_toEntry_L A A.fuel⟩
theorem laws_toEntry_ok (A : PM.Prims) (a_Cell : Int) (a_Val : Int) (a_Ver : Int) (k : PM.V → PM.R) : PM.pfun A cx [] (laws_toEntry_E A) Go.Proofs.Try.f215 [.agg [.int .i64 a_Cell, .int .i64 a_Val, .int .i64 a_Ver]] k = laws_toEntry_f A a_Cell a_Val a_Ver (fun r0_Cell r0_Val r0_Ver => k (.agg [.int .i64 r0_Cell, .int .i64 r0_Val, .int .i64 r0_Ver])) := by kernel_rfl

theorem laws_toEntry_fn : PM.FnIs Try.prog 215 Try.f215 := .of Try.func215 (by kernel_rfl) (by kernel_rfl)
theorem laws_toEntry_g : PM.GOk Try.prog cx 215 ⟨[], laws_toEntry_w (laws_toEntry PM.std), none⟩ := by
  refine ⟨laws_toEntry_fn.enter, fun _ ds k r h => ?_, fun hm => absurd rfl hm, fun _ e => (by cases e)⟩
  change laws_toEntry_w (laws_toEntry PM.std) ds k = some r at h
  unfold laws_toEntry_w at h
  split at h
  · exact PM.pfun_ok (E := laws_toEntry_E PM.std) (L := fun n => laws_toEntry_L PM.std n) (N := PM.std.fuel) cx_ok .nil mixed .nil laws_toEntry_fn (by kernel_rfl) ⟨rfl, fun _ _ _ => rfl, fun n cur σ K r h => by cases h⟩
      ((laws_toEntry_ok PM.std _ _ _ k).trans h)
  · cases h

abbrev laws_toEntryS_T := (List (List Int)) → ((List (List Int)) → PM.R) → PM.R
noncomputable def laws_toEntryS_w (c : laws_toEntryS_T) (ds : List PM.V) (k : PM.V → PM.R) : PM.R :=
  match ds with
  | [.arr (.vecs 299 3 a)] => c a (fun r0 => k (.arr (.vecs 225 3 r0)))
  | _ => none
noncomputable def laws_toEntryS_l0 (A : PM.Prims) (c_215 : laws_toEntry_T) : Nat → (List (List Int)) → (Int) → (List (List Int)) → ((List (List Int)) → PM.R) → PM.R
  | 0, _, _, _, _ => none
  | n + 1, a1, i2, o03, kx0_0 =>
    bif (A.lt i2 (A.vlen a1)) then
      bif (A.inb i2 (A.vlen a1)) then
        c_215 (A.vget a1 i2 0) (A.vget a1 i2 1) (A.vget a1 i2 2) (fun r4 r5 r6 =>
          bif (A.inb i2 (A.vlen o03)) then
            laws_toEntryS_l0 A c_215 n a1 (A.add .i64 i2 1) (A.vput o03 i2 [r4, r5, r6]) kx0_0
          else
            none)
      else
        none
    else
      kx0_0 o03
noncomputable def laws_toEntryS_f (A : PM.Prims) (c_215 : laws_toEntry_T) (a : List (List Int)) (k : (List (List Int)) → PM.R) : PM.R :=
  bif (A.mkOk (A.vlen a)) then
    bif (A.le (A.vlen a) (A.vlen a)) then
      bif (A.mkOk (A.vlen a)) then
        laws_toEntryS_l0 A c_215 A.fuel a 0 (A.vzero 3 (A.vlen a)) (fun o078 =>
          k o078)
      else
        none
    else
      none
  else
    none
noncomputable def laws_toEntryS (A : PM.Prims) : laws_toEntryS_T := laws_toEntryS_f A (laws_toEntry A)
noncomputable def laws_toEntryS_L (A : PM.Prims) (c_215 : laws_toEntry_T) (n : Nat) : PM.Lam := fun cur σ K =>
  match cur, σ, K with
  | 0, ⟨[(0, .arr (.vecs 299 3 a1)), (3, .sref 0), (4, .int .i64 i2)], [(0, .arr true (.vecs 225 3 o03))]⟩, K => laws_toEntryS_l0 A c_215 n a1 i2 o03 (fun o07 => K (.exit 0) ⟨[(3, .sref 0)], [(0, .arr true (.vecs 225 3 o07))]⟩)
  | _, _, _ => none
noncomputable def laws_toEntryS_E (A : PM.Prims) (c_215 : laws_toEntry_T) : PM.Env := ⟨[(215, ⟨[], laws_toEntry_w c_215, none⟩)], [], [(0, [0, 3, 4], [2, 3])], [(0, [0]), (1, [0, 3]), (2, [0, 3, 4]), (3, [0, 3, 4, 11]), (4, [0, 3, 4]), (5, [0, 3, 4]), (6, [2])], laws_toEntryS_L A c_215 A.fuel⟩
theorem laws_toEntryS_l0_ok (A : PM.Prims) (c_215 : laws_toEntry_T) (n : Nat) (a1 : List (List Int)) (i2 : Int) (o03 : List (List Int)) (K : Go.Exit → PM.S → PM.R) : laws_toEntryS_L A c_215 (n + 1) 0 ⟨[(0, .arr (.vecs 299 3 a1)), (3, .sref 0), (4, .int .i64 i2)], [(0, .arr true (.vecs 225 3 o03))]⟩ K = PM.roundF A cx (PM.runD A cx (laws_toEntryS_E A c_215).inl (laws_toEntryS_E A c_215).Γ 3) (laws_toEntryS_E A c_215) (laws_toEntryS_L A c_215 n) 0 Go.Proofs.Try.f151 ⟨[(0, .arr (.vecs 299 3 a1)), (3, .sref 0), (4, .int .i64 i2)], [(0, .arr true (.vecs 225 3 o03))]⟩ K := by kernel_rfl
theorem laws_toEntryS_ok (A : PM.Prims) (c_215 : laws_toEntry_T) (a : List (List Int)) (k : PM.V → PM.R) : PM.pfun A cx [] (laws_toEntryS_E A c_215) Go.Proofs.Try.f151 [.arr (.vecs 299 3 a)] k = laws_toEntryS_f A c_215 a (fun r0 => k (.arr (.vecs 225 3 r0))) := by kernel_rfl

theorem laws_toEntryS_fn : PM.FnIs Try.prog 151 Try.f151 := .of Try.func151 (by kernel_rfl) (by kernel_rfl)
theorem laws_toEntryS_g : PM.GOk Try.prog cx 151 ⟨[], laws_toEntryS_w (laws_toEntryS PM.std), none⟩ := by
  refine ⟨laws_toEntryS_fn.enter, fun _ ds k r h => ?_, fun hm => absurd rfl hm, fun _ e => (by cases e)⟩
  change laws_toEntryS_w (laws_toEntryS PM.std) ds k = some r at h
  unfold laws_toEntryS_w at h
  split at h
  · exact PM.pfun_ok (E := laws_toEntryS_E PM.std (laws_toEntry PM.std)) (L := fun n => laws_toEntryS_L PM.std (laws_toEntry PM.std) n) (N := PM.std.fuel) cx_ok (.cons laws_toEntry_g .nil) mixed .nil laws_toEntryS_fn (by kernel_rfl) ⟨rfl, fun cur σ K => by
      dsimp only [laws_toEntryS_L]
      split <;> rfl, fun n cur σ K r h => by
      dsimp only [laws_toEntryS_L] at h
      split at h
      · exact (laws_toEntryS_l0_ok PM.std (laws_toEntry PM.std) n _ _ _ K).symm.trans h
      · cases h⟩
      ((laws_toEntryS_ok PM.std (laws_toEntry PM.std) _ k).trans h)
  · cases h

abbrev laws_toKidMark_T := (Int) → (Int) → (List Int) → ((Int) → (Int) → (List Int) → PM.R) → PM.R
noncomputable def laws_toKidMark_w (c : laws_toKidMark_T) (ds : List PM.V) (k : PM.V → PM.R) : PM.R :=
  match ds with
  | [.agg [.int .i64 a_Pc, .int .i64 a_Writes, .arr (.ints 3 .i64 a_Regs)]] => c a_Pc a_Writes a_Regs (fun r0_Pc r0_Writes r0_Regs => k (.agg [.int .i64 r0_Pc, .int .i64 r0_Writes, .arr (.ints 3 .i64 r0_Regs)]))
  | _ => none
noncomputable def laws_toKidMark_f (A : PM.Prims) (c_37 : laws_toIntS_T) (a_Pc : Int) (a_Writes : Int) (a_Regs : List Int) (k : (Int) → (Int) → (List Int) → PM.R) : PM.R :=
  c_37 a_Regs (fun r1 =>
    k a_Pc a_Writes r1)
noncomputable def laws_toKidMark (A : PM.Prims) : laws_toKidMark_T := laws_toKidMark_f A (laws_toIntS A)
noncomputable def laws_toKidMark_L (A : PM.Prims) (c_37 : laws_toIntS_T) (n : Nat) : PM.Lam := fun cur σ K =>
  match cur, σ, K with
  | _, _, _ => none
noncomputable def laws_toKidMark_E (A : PM.Prims) (c_37 : laws_toIntS_T) : PM.Env := ⟨[(37, ⟨[], laws_toIntS_w c_37, none⟩)], [], [], [(0, [1, 2]), (1, [1, 2, 3]), (2, [1, 2, 3]), (3, [1, 2, 3]), (4, [2, 3]), (5, [2])], laws_toKidMark_L A c_37 A.fuel⟩
theorem laws_toKidMark_ok (A : PM.Prims) (c_37 : laws_toIntS_T) (a_Pc : Int) (a_Writes : Int) (a_Regs : List Int) (k : PM.V → PM.R) : PM.pfun A cx [] (laws_toKidMark_E A c_37) Go.Proofs.Try.f313 [.agg [.int .i64 a_Pc, .int .i64 a_Writes, .arr (.ints 3 .i64 a_Regs)]] k = laws_toKidMark_f A c_37 a_Pc a_Writes a_Regs (fun r0_Pc r0_Writes r0_Regs => k (.agg [.int .i64 r0_Pc, .int .i64 r0_Writes, .arr (.ints 3 .i64 r0_Regs)])) := by kernel_rfl

theorem laws_toKidMark_fn : PM.FnIs Try.prog 313 Try.f313 := .of Try.func313 (by kernel_rfl) (by kernel_rfl)
theorem laws_toKidMark_g : PM.GOk Try.prog cx 313 ⟨[], laws_toKidMark_w (laws_toKidMark PM.std), none⟩ := by
  refine ⟨laws_toKidMark_fn.enter, fun _ ds k r h => ?_, fun hm => absurd rfl hm, fun _ e => (by cases e)⟩
  change laws_toKidMark_w (laws_toKidMark PM.std) ds k = some r at h
  unfold laws_toKidMark_w at h
  split at h
  · exact PM.pfun_ok (E := laws_toKidMark_E PM.std (laws_toIntS PM.std)) (L := fun n => laws_toKidMark_L PM.std (laws_toIntS PM.std) n) (N := PM.std.fuel) cx_ok (.cons laws_toIntS_g .nil) mixed .nil laws_toKidMark_fn (by kernel_rfl) ⟨rfl, fun _ _ _ => rfl, fun n cur σ K r h => by cases h⟩
      ((laws_toKidMark_ok PM.std (laws_toIntS PM.std) _ _ _ k).trans h)
  · cases h

end X
