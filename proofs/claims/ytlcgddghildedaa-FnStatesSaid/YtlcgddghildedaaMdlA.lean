/- Models of the functions, or plain laws about them; each theorem states its own conditions. -/
import Derived.Test.YtlcgddghildedaaL3
import Derived.Test.YtlcgddghildedaaMKA
import Derived.Test.YtlcgddghildedaaW5
import Derived.Test.YtlcgddghildedaaW6
import Derived.Test.YtlcgddghildedaaW7
import Derived.Test.YtlcgddghildedaaDq
import Derived.Test.YtlcgddghildedaaProg
import Derived.KernelRfl
set_option linter.unusedVariables false
set_option linter.unusedSimpArgs false
open Go.Proofs
namespace X
open PM
set_option maxRecDepth 100000
set_option maxHeartbeats 4000000
noncomputable def cx : PM.Cx := [
  (2, ⟨1, false, [.int .i64 0], none, 0, none, [], [], [], [.int .i64], false⟩),
  (3, ⟨1, false, [.int .i64 0], none, 0, none, [], [], [], [.int .i64], false⟩),
  (4, ⟨1, false, [.bool false], none, 0, none, [], [], [], [.bool], false⟩),
  (5, ⟨1, false, [.int .u8 0], none, 0, none, [], [], [], [.int .u8], false⟩),
  (6, ⟨1, false, [.int .u8 0], none, 0, none, [], [], [], [.int .u8], false⟩),
  (7, ⟨4, true, [.int .i64 0, .int .i64 0, .bool false, .int .u8 0], none, 0, none, [0, 1, 2, 3], [1, 1, 1, 1], [2, 3, 4, 6], [.int .i64, .int .i64, .bool, .int .u8], true⟩),
  (8, ⟨4, true, [.int .i64 0, .int .i64 0, .bool false, .int .u8 0], none, 0, none, [0, 1, 2, 3], [1, 1, 1, 1], [2, 3, 4, 6], [.int .i64, .int .i64, .bool, .int .u8], true⟩),
  (12, ⟨1, false, [.int .u64 0], none, 0, none, [], [], [], [.int .u64], false⟩),
  (21, ⟨1, false, [.int .i32 0], none, 0, none, [], [], [], [.int .i32], false⟩),
  (22, ⟨1, false, [.arr (.emp (.ints 5 .u8))], some (.ints 5 .u8), 1, none, [], [], [], [.sl 22], false⟩),
  (24, ⟨1, false, [.arr (.emp (.ints 3 .i64))], some (.ints 3 .i64), 1, none, [], [], [], [.sl 24], false⟩),
  (25, ⟨1, false, [.arr (.emp (.rows 33))], some (.rows 33), 3, none, [], [], [], [.sl 25], false⟩),
  (31, ⟨1, false, [.arr (.emp (.vecs 161 2))], some (.vecs 161 2), 2, none, [], [], [], [.sl 31], false⟩),
  (32, ⟨3, true, [.int .i64 0, .int .i64 0, .arr (.emp (.vecs 161 2))], none, 0, none, [0, 1, 2], [1, 1, 1], [3, 3, 31], [.int .i64, .int .i64, .sl 31], false⟩),
  (33, ⟨3, true, [.int .i64 0, .int .i64 0, .arr (.emp (.vecs 161 2))], none, 0, none, [0, 1, 2], [1, 1, 1], [3, 3, 31], [.int .i64, .int .i64, .sl 31], false⟩),
  (39, ⟨1, false, [.arr (.emp (.vecs 354 3))], some (.vecs 354 3), 3, none, [], [], [], [.sl 39], false⟩),
  (40, ⟨2, true, [.int .i64 0, .arr (.emp (.vecs 354 3))], none, 0, none, [0, 1], [1, 1], [3, 39], [.int .i64, .sl 39], false⟩),
  (41, ⟨2, true, [.int .i64 0, .arr (.emp (.vecs 354 3))], none, 0, none, [0, 1], [1, 1], [3, 39], [.int .i64, .sl 39], false⟩),
  (42, ⟨2, true, [.arr (.emp (.ints 3 .i64)), .int .i64 0], none, 0, none, [0, 1], [1, 1], [24, 3], [.sl 24, .int .i64], false⟩),
  (43, ⟨2, true, [.arr (.emp (.ints 3 .i64)), .int .i64 0], none, 0, none, [0, 1], [1, 1], [24, 3], [.sl 24, .int .i64], false⟩),
  (44, ⟨1, false, [.arr (.emp (.vecs 277 3))], some (.vecs 277 3), 3, none, [], [], [], [.sl 44], false⟩),
  (45, ⟨1, false, [.arr (.emp (.rows 272))], some (.rows 272), 40, none, [], [], [], [.sl 45], false⟩),
  (46, ⟨1, false, [.arr (.emp (.rows 195))], some (.rows 195), 3, none, [], [], [], [.sl 46], false⟩),
  (47, ⟨9, true, [.int .i64 0, .int .i64 0, .int .i64 0, .arr (.emp (.vecs 354 3)), .arr (.emp (.ints 3 .i64)), .int .i64 0, .arr (.emp (.vecs 277 3)), .arr (.emp (.rows 272)), .arr (.emp (.rows 195))], none, 0, none, [0, 1, 2, 4, 6, 7, 8], [1, 1, 2, 2, 1, 1, 1], [3, 3, 41, 43, 44, 45, 46], [.int .i64, .int .i64, .int .i64, .sl 39, .sl 24, .int .i64, .sl 44, .sl 45, .sl 46], false⟩),
  (48, ⟨9, true, [.int .i64 0, .int .i64 0, .int .i64 0, .arr (.emp (.vecs 354 3)), .arr (.emp (.ints 3 .i64)), .int .i64 0, .arr (.emp (.vecs 277 3)), .arr (.emp (.rows 272)), .arr (.emp (.rows 195))], none, 0, none, [0, 1, 2, 4, 6, 7, 8], [1, 1, 2, 2, 1, 1, 1], [3, 3, 41, 43, 44, 45, 46], [.int .i64, .int .i64, .int .i64, .sl 39, .sl 24, .int .i64, .sl 44, .sl 45, .sl 46], false⟩),
  (51, ⟨1, false, [.arr (.emp (.vecs 287 3))], some (.vecs 287 3), 3, none, [], [], [], [.sl 51], false⟩),
  (52, ⟨2, true, [.int .i64 0, .arr (.emp (.vecs 287 3))], none, 0, none, [0, 1], [1, 1], [3, 51], [.int .i64, .sl 51], false⟩),
  (53, ⟨2, true, [.int .i64 0, .arr (.emp (.vecs 287 3))], none, 0, none, [0, 1], [1, 1], [3, 51], [.int .i64, .sl 51], false⟩),
  (54, ⟨2, true, [.arr (.emp (.ints 3 .i64)), .int .i64 0], none, 0, none, [0, 1], [1, 1], [24, 3], [.sl 24, .int .i64], false⟩),
  (55, ⟨1, false, [.arr (.emp (.vecs 275 3))], some (.vecs 275 3), 3, none, [], [], [], [.sl 55], false⟩),
  (56, ⟨1, false, [.arr (.emp (.rows 175))], some (.rows 175), 40, none, [], [], [], [.sl 56], false⟩),
  (57, ⟨9, true, [.int .i64 0, .int .i64 0, .int .i64 0, .arr (.emp (.vecs 287 3)), .arr (.emp (.ints 3 .i64)), .int .i64 0, .arr (.emp (.vecs 275 3)), .arr (.emp (.rows 175)), .arr (.emp (.rows 33))], none, 0, none, [0, 1, 2, 4, 6, 7, 8], [1, 1, 2, 2, 1, 1, 1], [3, 3, 53, 54, 55, 56, 25], [.int .i64, .int .i64, .int .i64, .sl 51, .sl 24, .int .i64, .sl 55, .sl 56, .sl 25], false⟩),
  (58, ⟨9, true, [.int .i64 0, .int .i64 0, .int .i64 0, .arr (.emp (.vecs 287 3)), .arr (.emp (.ints 3 .i64)), .int .i64 0, .arr (.emp (.vecs 275 3)), .arr (.emp (.rows 175)), .arr (.emp (.rows 33))], none, 0, none, [0, 1, 2, 4, 6, 7, 8], [1, 1, 2, 2, 1, 1, 1], [3, 3, 53, 54, 55, 56, 25], [.int .i64, .int .i64, .int .i64, .sl 51, .sl 24, .int .i64, .sl 55, .sl 56, .sl 25], false⟩),
  (62, ⟨1, false, [.arr (.emp (.rows 285))], some (.rows 285), 18, none, [], [], [], [.sl 62], false⟩),
  (63, ⟨4, true, [.int .i64 0, .arr (.emp (.vecs 354 3)), .arr (.emp (.rows 285)), .arr (.emp (.rows 195))], none, 0, none, [0, 2, 3], [2, 1, 1], [41, 62, 46], [.int .i64, .sl 39, .sl 62, .sl 46], false⟩),
  (64, ⟨4, true, [.int .i64 0, .arr (.emp (.vecs 354 3)), .arr (.emp (.rows 285)), .arr (.emp (.rows 195))], none, 0, none, [0, 2, 3], [2, 1, 1], [41, 62, 46], [.int .i64, .sl 39, .sl 62, .sl 46], false⟩),
  (68, ⟨1, false, [.arr (.emp (.rows 189))], some (.rows 189), 18, none, [], [], [], [.sl 68], false⟩),
  (69, ⟨4, true, [.int .i64 0, .arr (.emp (.vecs 287 3)), .arr (.emp (.rows 189)), .arr (.emp (.rows 33))], none, 0, none, [0, 2, 3], [2, 1, 1], [53, 68, 25], [.int .i64, .sl 51, .sl 68, .sl 25], false⟩),
  (70, ⟨4, true, [.int .i64 0, .arr (.emp (.vecs 287 3)), .arr (.emp (.rows 189)), .arr (.emp (.rows 33))], none, 0, none, [0, 2, 3], [2, 1, 1], [53, 68, 25], [.int .i64, .sl 51, .sl 68, .sl 25], false⟩),
  (78, ⟨1, false, [.arr (.emp (.rows 203))], some (.rows 203), 2, none, [], [], [], [.sl 78], false⟩),
  (81, ⟨1, false, [.arr (.emp (.rows 205))], some (.rows 205), 2, none, [], [], [], [.sl 81], false⟩),
  (90, ⟨1, false, [.arr (.emp (.vecs 297 2))], some (.vecs 297 2), 2, none, [], [], [], [.sl 90], false⟩),
  (91, ⟨1, false, [.arr (.emp (.vecs 299 3))], some (.vecs 299 3), 3, none, [], [], [], [.sl 91], false⟩),
  (92, ⟨1, false, [.arr (.emp (.rows 295))], some (.rows 295), 15, none, [], [], [], [.sl 92], false⟩),
  (93, ⟨10, true, [.int .i64 0, .int .i64 0, .int .i64 0, .bool false, .arr (.emp (.ints 3 .i64)), .arr (.emp (.vecs 297 2)), .arr (.emp (.vecs 299 3)), .arr (.emp (.ints 3 .i64)), .arr (.emp (.vecs 297 2)), .arr (.emp (.rows 295))], none, 0, none, [0, 1, 2, 3, 4, 5, 6, 7, 8, 9], [1, 1, 1, 1, 1, 1, 1, 1, 1, 1], [3, 3, 3, 4, 24, 90, 91, 24, 90, 92], [.int .i64, .int .i64, .int .i64, .bool, .sl 24, .sl 90, .sl 91, .sl 24, .sl 90, .sl 92], false⟩),
  (94, ⟨10, true, [.int .i64 0, .int .i64 0, .int .i64 0, .bool false, .arr (.emp (.ints 3 .i64)), .arr (.emp (.vecs 297 2)), .arr (.emp (.vecs 299 3)), .arr (.emp (.ints 3 .i64)), .arr (.emp (.vecs 297 2)), .arr (.emp (.rows 295))], none, 0, none, [0, 1, 2, 3, 4, 5, 6, 7, 8, 9], [1, 1, 1, 1, 1, 1, 1, 1, 1, 1], [3, 3, 3, 4, 24, 90, 91, 24, 90, 92], [.int .i64, .int .i64, .int .i64, .bool, .sl 24, .sl 90, .sl 91, .sl 24, .sl 90, .sl 92], false⟩),
  (97, ⟨1, false, [.arr (.emp (.vecs 225 3))], some (.vecs 225 3), 3, none, [], [], [], [.sl 97], false⟩),
  (98, ⟨1, false, [.arr (.emp (.rows 214))], some (.rows 214), 15, none, [], [], [], [.sl 98], false⟩),
  (99, ⟨10, true, [.int .i64 0, .int .i64 0, .int .i64 0, .bool false, .arr (.emp (.ints 3 .i64)), .arr (.emp (.vecs 161 2)), .arr (.emp (.vecs 225 3)), .arr (.emp (.ints 3 .i64)), .arr (.emp (.vecs 161 2)), .arr (.emp (.rows 214))], none, 0, none, [0, 1, 2, 3, 4, 5, 6, 7, 8, 9], [1, 1, 1, 1, 1, 1, 1, 1, 1, 1], [3, 3, 3, 4, 24, 31, 97, 24, 31, 98], [.int .i64, .int .i64, .int .i64, .bool, .sl 24, .sl 31, .sl 97, .sl 24, .sl 31, .sl 98], false⟩),
  (100, ⟨10, true, [.int .i64 0, .int .i64 0, .int .i64 0, .bool false, .arr (.emp (.ints 3 .i64)), .arr (.emp (.vecs 161 2)), .arr (.emp (.vecs 225 3)), .arr (.emp (.ints 3 .i64)), .arr (.emp (.vecs 161 2)), .arr (.emp (.rows 214))], none, 0, none, [0, 1, 2, 3, 4, 5, 6, 7, 8, 9], [1, 1, 1, 1, 1, 1, 1, 1, 1, 1], [3, 3, 3, 4, 24, 31, 97, 24, 31, 98], [.int .i64, .int .i64, .int .i64, .bool, .sl 24, .sl 31, .sl 97, .sl 24, .sl 31, .sl 98], false⟩),
  (112, ⟨1, false, [.arr (.emp (.rows 309))], some (.rows 309), 1, none, [], [], [], [.sl 112], false⟩),
  (113, ⟨5, true, [.arr (.emp (.ints 3 .i64)), .arr (.emp (.ints 3 .i64)), .arr (.emp (.vecs 297 2)), .arr (.emp (.rows 309)), .arr (.emp (.ints 3 .i64))], none, 0, none, [0, 1, 2, 3, 4], [1, 1, 1, 1, 1], [24, 24, 90, 112, 24], [.sl 24, .sl 24, .sl 90, .sl 112, .sl 24], false⟩),
  (114, ⟨5, true, [.arr (.emp (.ints 3 .i64)), .arr (.emp (.ints 3 .i64)), .arr (.emp (.vecs 297 2)), .arr (.emp (.rows 309)), .arr (.emp (.ints 3 .i64))], none, 0, none, [0, 1, 2, 3, 4], [1, 1, 1, 1, 1], [24, 24, 90, 112, 24], [.sl 24, .sl 24, .sl 90, .sl 112, .sl 24], false⟩),
  (117, ⟨1, false, [.arr (.emp (.rows 233))], some (.rows 233), 1, none, [], [], [], [.sl 117], false⟩),
  (118, ⟨5, true, [.arr (.emp (.ints 3 .i64)), .arr (.emp (.ints 3 .i64)), .arr (.emp (.vecs 161 2)), .arr (.emp (.rows 233)), .arr (.emp (.ints 3 .i64))], none, 0, none, [0, 1, 2, 3, 4], [1, 1, 1, 1, 1], [24, 24, 31, 117, 24], [.sl 24, .sl 24, .sl 31, .sl 117, .sl 24], false⟩),
  (119, ⟨5, true, [.arr (.emp (.ints 3 .i64)), .arr (.emp (.ints 3 .i64)), .arr (.emp (.vecs 161 2)), .arr (.emp (.rows 233)), .arr (.emp (.ints 3 .i64))], none, 0, none, [0, 1, 2, 3, 4], [1, 1, 1, 1, 1], [24, 24, 31, 117, 24], [.sl 24, .sl 24, .sl 31, .sl 117, .sl 24], false⟩),
  (127, ⟨3, true, [.arr (.emp (.ints 3 .i64)), .arr (.emp (.ints 3 .i64)), .int .i64 0], none, 0, none, [0, 1, 2], [1, 1, 1], [24, 24, 3], [.sl 24, .sl 24, .int .i64], false⟩),
  (128, ⟨3, true, [.arr (.emp (.ints 3 .i64)), .arr (.emp (.ints 3 .i64)), .int .i64 0], none, 0, none, [0, 1, 2], [1, 1, 1], [24, 24, 3], [.sl 24, .sl 24, .int .i64], false⟩),
  (129, ⟨1, false, [.arr (.emp (.rows 317))], some (.rows 317), 2, none, [], [], [], [.sl 129], false⟩),
  (130, ⟨1, false, [.arr (.emp (.vecs 322 3))], some (.vecs 322 3), 3, none, [], [], [], [.sl 130], false⟩),
  (131, ⟨5, true, [.arr (.emp (.ints 3 .i64)), .arr (.emp (.ints 3 .i64)), .int .i64 0, .arr (.emp (.rows 317)), .arr (.emp (.vecs 322 3))], none, 0, none, [0, 3, 4], [3, 1, 1], [128, 129, 130], [.sl 24, .sl 24, .int .i64, .sl 129, .sl 130], false⟩),
  (132, ⟨5, true, [.arr (.emp (.ints 3 .i64)), .arr (.emp (.ints 3 .i64)), .int .i64 0, .arr (.emp (.rows 317)), .arr (.emp (.vecs 322 3))], none, 0, none, [0, 3, 4], [3, 1, 1], [128, 129, 130], [.sl 24, .sl 24, .int .i64, .sl 129, .sl 130], false⟩),
  (135, ⟨3, true, [.arr (.emp (.ints 3 .i64)), .arr (.emp (.ints 3 .i64)), .int .i64 0], none, 0, none, [0, 1, 2], [1, 1, 1], [24, 24, 3], [.sl 24, .sl 24, .int .i64], false⟩),
  (136, ⟨1, false, [.arr (.emp (.rows 242))], some (.rows 242), 2, none, [], [], [], [.sl 136], false⟩),
  (137, ⟨1, false, [.arr (.emp (.vecs 320 3))], some (.vecs 320 3), 3, none, [], [], [], [.sl 137], false⟩),
  (138, ⟨5, true, [.arr (.emp (.ints 3 .i64)), .arr (.emp (.ints 3 .i64)), .int .i64 0, .arr (.emp (.rows 242)), .arr (.emp (.vecs 320 3))], none, 0, none, [0, 3, 4], [3, 1, 1], [135, 136, 137], [.sl 24, .sl 24, .int .i64, .sl 136, .sl 137], false⟩),
  (139, ⟨5, true, [.arr (.emp (.ints 3 .i64)), .arr (.emp (.ints 3 .i64)), .int .i64 0, .arr (.emp (.rows 242)), .arr (.emp (.vecs 320 3))], none, 0, none, [0, 3, 4], [3, 1, 1], [135, 136, 137], [.sl 24, .sl 24, .int .i64, .sl 136, .sl 137], false⟩),
  (160, ⟨2, true, [.int .i64 0, .int .i64 0], none, 0, none, [0, 1], [1, 1], [3, 3], [.int .i64, .int .i64], true⟩),
  (161, ⟨2, true, [.int .i64 0, .int .i64 0], none, 0, none, [0, 1], [1, 1], [3, 3], [.int .i64, .int .i64], true⟩),
  (168, ⟨1, false, [.arr (.emp (.rows 396))], some (.rows 396), 5, none, [], [], [], [.sl 168], false⟩),
  (169, ⟨1, false, [.arr (.emp (.vecs 399 3))], some (.vecs 399 3), 3, none, [], [], [], [.sl 169], false⟩),
  (170, ⟨4, true, [.int .i64 0, .int .i64 0, .int .i64 0, .int .i64 0], none, 0, none, [0, 1, 2, 3], [1, 1, 1, 1], [3, 3, 3, 3], [.int .i64, .int .i64, .int .i64, .int .i64], true⟩),
  (171, ⟨4, true, [.int .i64 0, .int .i64 0, .int .i64 0, .int .i64 0], none, 0, none, [0, 1, 2, 3], [1, 1, 1, 1], [3, 3, 3, 3], [.int .i64, .int .i64, .int .i64, .int .i64], true⟩),
  (172, ⟨7, true, [.int .i64 0, .int .i64 0, .int .i64 0, .int .i64 0, .int .i64 0, .arr (.emp (.vecs 161 2)), .arr (.emp (.ints 3 .i64))], none, 0, none, [0, 1, 2, 3, 4, 5, 6], [1, 1, 1, 1, 1, 1, 1], [3, 3, 3, 3, 3, 31, 24], [.int .i64, .int .i64, .int .i64, .int .i64, .int .i64, .sl 31, .sl 24], false⟩),
  (173, ⟨7, true, [.int .i64 0, .int .i64 0, .int .i64 0, .int .i64 0, .int .i64 0, .arr (.emp (.vecs 161 2)), .arr (.emp (.ints 3 .i64))], none, 0, none, [0, 1, 2, 3, 4, 5, 6], [1, 1, 1, 1, 1, 1, 1], [3, 3, 3, 3, 3, 31, 24], [.int .i64, .int .i64, .int .i64, .int .i64, .int .i64, .sl 31, .sl 24], false⟩),
  (174, ⟨40, true, [.int .i64 0, .int .i64 0, .int .i64 0, .int .i64 0, .int .i64 0, .int .i64 0, .int .i64 0, .int .i64 0, .int .i64 0, .int .i64 0, .int .i64 0, .bool false, .arr (.emp (.ints 3 .i64)), .arr (.emp (.vecs 161 2)), .arr (.emp (.vecs 161 2)), .arr (.emp (.rows 396)), .arr (.emp (.vecs 399 3)), .arr (.emp (.ints 3 .i64)), .bool false, .int .i64 0, .int .i64 0, .int .i64 0, .int .i64 0, .int .i64 0, .int .i64 0, .int .i64 0, .int .i64 0, .int .i64 0, .arr (.emp (.vecs 161 2)), .arr (.emp (.ints 3 .i64)), .int .i64 0, .int .i64 0, .int .i64 0, .bool false, .arr (.emp (.ints 3 .i64)), .arr (.emp (.vecs 161 2)), .arr (.emp (.vecs 225 3)), .arr (.emp (.ints 3 .i64)), .arr (.emp (.vecs 161 2)), .arr (.emp (.rows 214))], none, 0, none, [0, 1, 2, 3, 4, 5, 6, 7, 8, 9, 10, 11, 12, 13, 14, 15, 16, 17, 18, 19, 23, 30], [1, 1, 1, 1, 1, 1, 1, 1, 1, 1, 1, 1, 1, 1, 1, 1, 1, 1, 1, 4, 7, 10], [3, 3, 3, 3, 3, 3, 3, 3, 3, 3, 3, 4, 24, 31, 31, 168, 169, 24, 4, 171, 173, 100], [.int .i64, .int .i64, .int .i64, .int .i64, .int .i64, .int .i64, .int .i64, .int .i64, .int .i64, .int .i64, .int .i64, .bool, .sl 24, .sl 31, .sl 31, .sl 168, .sl 169, .sl 24, .bool, .int .i64, .int .i64, .int .i64, .int .i64, .int .i64, .int .i64, .int .i64, .int .i64, .int .i64, .sl 31, .sl 24, .int .i64, .int .i64, .int .i64, .bool, .sl 24, .sl 31, .sl 97, .sl 24, .sl 31, .sl 98], false⟩),
  (175, ⟨40, true, [.int .i64 0, .int .i64 0, .int .i64 0, .int .i64 0, .int .i64 0, .int .i64 0, .int .i64 0, .int .i64 0, .int .i64 0, .int .i64 0, .int .i64 0, .bool false, .arr (.emp (.ints 3 .i64)), .arr (.emp (.vecs 161 2)), .arr (.emp (.vecs 161 2)), .arr (.emp (.rows 396)), .arr (.emp (.vecs 399 3)), .arr (.emp (.ints 3 .i64)), .bool false, .int .i64 0, .int .i64 0, .int .i64 0, .int .i64 0, .int .i64 0, .int .i64 0, .int .i64 0, .int .i64 0, .int .i64 0, .arr (.emp (.vecs 161 2)), .arr (.emp (.ints 3 .i64)), .int .i64 0, .int .i64 0, .int .i64 0, .bool false, .arr (.emp (.ints 3 .i64)), .arr (.emp (.vecs 161 2)), .arr (.emp (.vecs 225 3)), .arr (.emp (.ints 3 .i64)), .arr (.emp (.vecs 161 2)), .arr (.emp (.rows 214))], none, 0, none, [0, 1, 2, 3, 4, 5, 6, 7, 8, 9, 10, 11, 12, 13, 14, 15, 16, 17, 18, 19, 23, 30], [1, 1, 1, 1, 1, 1, 1, 1, 1, 1, 1, 1, 1, 1, 1, 1, 1, 1, 1, 4, 7, 10], [3, 3, 3, 3, 3, 3, 3, 3, 3, 3, 3, 4, 24, 31, 31, 168, 169, 24, 4, 171, 173, 100], [.int .i64, .int .i64, .int .i64, .int .i64, .int .i64, .int .i64, .int .i64, .int .i64, .int .i64, .int .i64, .int .i64, .bool, .sl 24, .sl 31, .sl 31, .sl 168, .sl 169, .sl 24, .bool, .int .i64, .int .i64, .int .i64, .int .i64, .int .i64, .int .i64, .int .i64, .int .i64, .int .i64, .sl 31, .sl 24, .int .i64, .int .i64, .int .i64, .bool, .sl 24, .sl 31, .sl 97, .sl 24, .sl 31, .sl 98], false⟩),
  (188, ⟨18, true, [.int .i64 0, .int .i64 0, .int .i64 0, .int .i64 0, .int .i64 0, .arr (.emp (.vecs 161 2)), .bool false, .int .i64 0, .int .i64 0, .int .i64 0, .int .i64 0, .int .i64 0, .int .i64 0, .int .i64 0, .int .i64 0, .int .i64 0, .arr (.emp (.vecs 161 2)), .arr (.emp (.ints 3 .i64))], none, 0, none, [0, 1, 2, 3, 4, 5, 6, 7, 11], [1, 1, 1, 1, 1, 1, 1, 4, 7], [3, 3, 3, 3, 3, 31, 4, 171, 173], [.int .i64, .int .i64, .int .i64, .int .i64, .int .i64, .sl 31, .bool, .int .i64, .int .i64, .int .i64, .int .i64, .int .i64, .int .i64, .int .i64, .int .i64, .int .i64, .sl 31, .sl 24], false⟩),
  (189, ⟨18, true, [.int .i64 0, .int .i64 0, .int .i64 0, .int .i64 0, .int .i64 0, .arr (.emp (.vecs 161 2)), .bool false, .int .i64 0, .int .i64 0, .int .i64 0, .int .i64 0, .int .i64 0, .int .i64 0, .int .i64 0, .int .i64 0, .int .i64 0, .arr (.emp (.vecs 161 2)), .arr (.emp (.ints 3 .i64))], none, 0, none, [0, 1, 2, 3, 4, 5, 6, 7, 11], [1, 1, 1, 1, 1, 1, 1, 4, 7], [3, 3, 3, 3, 3, 31, 4, 171, 173], [.int .i64, .int .i64, .int .i64, .int .i64, .int .i64, .sl 31, .bool, .int .i64, .int .i64, .int .i64, .int .i64, .int .i64, .int .i64, .int .i64, .int .i64, .int .i64, .sl 31, .sl 24], false⟩),
  (194, ⟨3, true, [.int .i64 0, .int .i64 0, .arr (.emp (.vecs 297 2))], none, 0, none, [0, 1, 2], [1, 1, 1], [3, 3, 90], [.int .i64, .int .i64, .sl 90], false⟩),
  (195, ⟨3, true, [.int .i64 0, .int .i64 0, .arr (.emp (.vecs 297 2))], none, 0, none, [0, 1, 2], [1, 1, 1], [3, 3, 90], [.int .i64, .int .i64, .sl 90], false⟩),
  (202, ⟨2, true, [.arr (.emp (.ints 3 .i64)), .arr (.emp (.vecs 297 2))], none, 0, none, [0, 1], [1, 1], [24, 90], [.sl 24, .sl 90], false⟩),
  (203, ⟨2, true, [.arr (.emp (.ints 3 .i64)), .arr (.emp (.vecs 297 2))], none, 0, none, [0, 1], [1, 1], [24, 90], [.sl 24, .sl 90], false⟩),
  (204, ⟨2, true, [.arr (.emp (.ints 3 .i64)), .arr (.emp (.vecs 161 2))], none, 0, none, [0, 1], [1, 1], [24, 31], [.sl 24, .sl 31], false⟩),
  (205, ⟨2, true, [.arr (.emp (.ints 3 .i64)), .arr (.emp (.vecs 161 2))], none, 0, none, [0, 1], [1, 1], [24, 31], [.sl 24, .sl 31], false⟩),
  (212, ⟨1, false, [.arr (.emp (.rows 368))], some (.rows 368), 3, none, [], [], [], [.sl 212], false⟩),
  (213, ⟨15, true, [.int .i64 0, .int .i64 0, .int .i64 0, .int .i64 0, .int .i64 0, .int .i64 0, .arr (.emp (.ints 3 .i64)), .arr (.emp (.vecs 225 3)), .arr (.emp (.vecs 161 2)), .arr (.emp (.rows 368)), .bool false, .int .i64 0, .int .i64 0, .int .i64 0, .int .i64 0], none, 0, none, [0, 1, 2, 3, 4, 5, 6, 7, 8, 9, 10, 11], [1, 1, 1, 1, 1, 1, 1, 1, 1, 1, 1, 4], [3, 3, 3, 3, 3, 3, 24, 97, 31, 212, 4, 171], [.int .i64, .int .i64, .int .i64, .int .i64, .int .i64, .int .i64, .sl 24, .sl 97, .sl 31, .sl 212, .bool, .int .i64, .int .i64, .int .i64, .int .i64], false⟩),
  (214, ⟨15, true, [.int .i64 0, .int .i64 0, .int .i64 0, .int .i64 0, .int .i64 0, .int .i64 0, .arr (.emp (.ints 3 .i64)), .arr (.emp (.vecs 225 3)), .arr (.emp (.vecs 161 2)), .arr (.emp (.rows 368)), .bool false, .int .i64 0, .int .i64 0, .int .i64 0, .int .i64 0], none, 0, none, [0, 1, 2, 3, 4, 5, 6, 7, 8, 9, 10, 11], [1, 1, 1, 1, 1, 1, 1, 1, 1, 1, 1, 4], [3, 3, 3, 3, 3, 3, 24, 97, 31, 212, 4, 171], [.int .i64, .int .i64, .int .i64, .int .i64, .int .i64, .int .i64, .sl 24, .sl 97, .sl 31, .sl 212, .bool, .int .i64, .int .i64, .int .i64, .int .i64], false⟩),
  (224, ⟨3, true, [.int .i64 0, .int .i64 0, .int .i64 0], none, 0, none, [0, 1, 2], [1, 1, 1], [3, 3, 3], [.int .i64, .int .i64, .int .i64], true⟩),
  (225, ⟨3, true, [.int .i64 0, .int .i64 0, .int .i64 0], none, 0, none, [0, 1, 2], [1, 1, 1], [3, 3, 3], [.int .i64, .int .i64, .int .i64], true⟩),
  (231, ⟨1, false, [.arr (.emp (.vecs 312 4))], some (.vecs 312 4), 4, none, [], [], [], [.sl 231], false⟩),
  (232, ⟨1, true, [.arr (.emp (.vecs 312 4))], none, 0, none, [0], [1], [231], [.sl 231], false⟩),
  (233, ⟨1, true, [.arr (.emp (.vecs 312 4))], none, 0, none, [0], [1], [231], [.sl 231], false⟩),
  (241, ⟨2, true, [.arr (.emp (.vecs 312 4)), .arr (.emp (.rows 233))], none, 0, none, [0, 1], [1, 1], [231, 117], [.sl 231, .sl 117], false⟩),
  (242, ⟨2, true, [.arr (.emp (.vecs 312 4)), .arr (.emp (.rows 233))], none, 0, none, [0, 1], [1, 1], [231, 117], [.sl 231, .sl 117], false⟩),
  (256, ⟨3, true, [.arr (.emp (.ints 5 .u8)), .int .i64 0, .int .i64 0], none, 0, none, [0, 1, 2], [1, 1, 1], [22, 3, 3], [.sl 22, .int .i64, .int .i64], false⟩),
  (257, ⟨3, true, [.arr (.emp (.ints 5 .u8)), .int .i64 0, .int .i64 0], none, 0, none, [0, 1, 2], [1, 1, 1], [22, 3, 3], [.sl 22, .int .i64, .int .i64], false⟩),
  (262, ⟨1, false, [.int .u64 0], none, 0, none, [], [], [], [.int .u64], false⟩),
  (266, ⟨1, false, [.arr (.emp (.rows 395))], some (.rows 395), 5, none, [], [], [], [.sl 266], false⟩),
  (267, ⟨1, false, [.arr (.emp (.vecs 401 3))], some (.vecs 401 3), 3, none, [], [], [], [.sl 267], false⟩),
  (268, ⟨4, true, [.int .i64 0, .int .i64 0, .int .i64 0, .int .i64 0], none, 0, none, [0, 1, 2, 3], [1, 1, 1, 1], [3, 3, 3, 3], [.int .i64, .int .i64, .int .i64, .int .i64], true⟩),
  (269, ⟨7, true, [.int .i64 0, .int .i64 0, .int .i64 0, .int .i64 0, .int .i64 0, .arr (.emp (.vecs 297 2)), .arr (.emp (.ints 3 .i64))], none, 0, none, [0, 1, 2, 3, 4, 5, 6], [1, 1, 1, 1, 1, 1, 1], [3, 3, 3, 3, 3, 90, 24], [.int .i64, .int .i64, .int .i64, .int .i64, .int .i64, .sl 90, .sl 24], false⟩),
  (270, ⟨7, true, [.int .i64 0, .int .i64 0, .int .i64 0, .int .i64 0, .int .i64 0, .arr (.emp (.vecs 297 2)), .arr (.emp (.ints 3 .i64))], none, 0, none, [0, 1, 2, 3, 4, 5, 6], [1, 1, 1, 1, 1, 1, 1], [3, 3, 3, 3, 3, 90, 24], [.int .i64, .int .i64, .int .i64, .int .i64, .int .i64, .sl 90, .sl 24], false⟩),
  (271, ⟨40, true, [.int .i64 0, .int .i64 0, .int .i64 0, .int .i64 0, .int .i64 0, .int .i64 0, .int .i64 0, .int .i64 0, .int .i64 0, .int .i64 0, .int .i64 0, .bool false, .arr (.emp (.ints 3 .i64)), .arr (.emp (.vecs 297 2)), .arr (.emp (.vecs 297 2)), .arr (.emp (.rows 395)), .arr (.emp (.vecs 401 3)), .arr (.emp (.ints 3 .i64)), .bool false, .int .i64 0, .int .i64 0, .int .i64 0, .int .i64 0, .int .i64 0, .int .i64 0, .int .i64 0, .int .i64 0, .int .i64 0, .arr (.emp (.vecs 297 2)), .arr (.emp (.ints 3 .i64)), .int .i64 0, .int .i64 0, .int .i64 0, .bool false, .arr (.emp (.ints 3 .i64)), .arr (.emp (.vecs 297 2)), .arr (.emp (.vecs 299 3)), .arr (.emp (.ints 3 .i64)), .arr (.emp (.vecs 297 2)), .arr (.emp (.rows 295))], none, 0, none, [0, 1, 2, 3, 4, 5, 6, 7, 8, 9, 10, 11, 12, 13, 14, 15, 16, 17, 18, 19, 23, 30], [1, 1, 1, 1, 1, 1, 1, 1, 1, 1, 1, 1, 1, 1, 1, 1, 1, 1, 1, 4, 7, 10], [3, 3, 3, 3, 3, 3, 3, 3, 3, 3, 3, 4, 24, 90, 90, 266, 267, 24, 4, 268, 270, 94], [.int .i64, .int .i64, .int .i64, .int .i64, .int .i64, .int .i64, .int .i64, .int .i64, .int .i64, .int .i64, .int .i64, .bool, .sl 24, .sl 90, .sl 90, .sl 266, .sl 267, .sl 24, .bool, .int .i64, .int .i64, .int .i64, .int .i64, .int .i64, .int .i64, .int .i64, .int .i64, .int .i64, .sl 90, .sl 24, .int .i64, .int .i64, .int .i64, .bool, .sl 24, .sl 90, .sl 91, .sl 24, .sl 90, .sl 92], false⟩),
  (272, ⟨40, true, [.int .i64 0, .int .i64 0, .int .i64 0, .int .i64 0, .int .i64 0, .int .i64 0, .int .i64 0, .int .i64 0, .int .i64 0, .int .i64 0, .int .i64 0, .bool false, .arr (.emp (.ints 3 .i64)), .arr (.emp (.vecs 297 2)), .arr (.emp (.vecs 297 2)), .arr (.emp (.rows 395)), .arr (.emp (.vecs 401 3)), .arr (.emp (.ints 3 .i64)), .bool false, .int .i64 0, .int .i64 0, .int .i64 0, .int .i64 0, .int .i64 0, .int .i64 0, .int .i64 0, .int .i64 0, .int .i64 0, .arr (.emp (.vecs 297 2)), .arr (.emp (.ints 3 .i64)), .int .i64 0, .int .i64 0, .int .i64 0, .bool false, .arr (.emp (.ints 3 .i64)), .arr (.emp (.vecs 297 2)), .arr (.emp (.vecs 299 3)), .arr (.emp (.ints 3 .i64)), .arr (.emp (.vecs 297 2)), .arr (.emp (.rows 295))], none, 0, none, [0, 1, 2, 3, 4, 5, 6, 7, 8, 9, 10, 11, 12, 13, 14, 15, 16, 17, 18, 19, 23, 30], [1, 1, 1, 1, 1, 1, 1, 1, 1, 1, 1, 1, 1, 1, 1, 1, 1, 1, 1, 4, 7, 10], [3, 3, 3, 3, 3, 3, 3, 3, 3, 3, 3, 4, 24, 90, 90, 266, 267, 24, 4, 268, 270, 94], [.int .i64, .int .i64, .int .i64, .int .i64, .int .i64, .int .i64, .int .i64, .int .i64, .int .i64, .int .i64, .int .i64, .bool, .sl 24, .sl 90, .sl 90, .sl 266, .sl 267, .sl 24, .bool, .int .i64, .int .i64, .int .i64, .int .i64, .int .i64, .int .i64, .int .i64, .int .i64, .int .i64, .sl 90, .sl 24, .int .i64, .int .i64, .int .i64, .bool, .sl 24, .sl 90, .sl 91, .sl 24, .sl 90, .sl 92], false⟩),
  (274, ⟨3, true, [.int .i64 0, .int .i64 0, .int .i64 0], none, 0, none, [0, 1, 2], [1, 1, 1], [3, 3, 3], [.int .i64, .int .i64, .int .i64], true⟩),
  (275, ⟨3, true, [.int .i64 0, .int .i64 0, .int .i64 0], none, 0, none, [0, 1, 2], [1, 1, 1], [3, 3, 3], [.int .i64, .int .i64, .int .i64], true⟩),
  (277, ⟨3, true, [.int .i64 0, .int .i64 0, .int .i64 0], none, 0, none, [0, 1, 2], [1, 1, 1], [3, 3, 3], [.int .i64, .int .i64, .int .i64], true⟩),
  (284, ⟨18, true, [.int .i64 0, .int .i64 0, .int .i64 0, .int .i64 0, .int .i64 0, .arr (.emp (.vecs 297 2)), .bool false, .int .i64 0, .int .i64 0, .int .i64 0, .int .i64 0, .int .i64 0, .int .i64 0, .int .i64 0, .int .i64 0, .int .i64 0, .arr (.emp (.vecs 297 2)), .arr (.emp (.ints 3 .i64))], none, 0, none, [0, 1, 2, 3, 4, 5, 6, 7, 11], [1, 1, 1, 1, 1, 1, 1, 4, 7], [3, 3, 3, 3, 3, 90, 4, 268, 270], [.int .i64, .int .i64, .int .i64, .int .i64, .int .i64, .sl 90, .bool, .int .i64, .int .i64, .int .i64, .int .i64, .int .i64, .int .i64, .int .i64, .int .i64, .int .i64, .sl 90, .sl 24], false⟩),
  (285, ⟨18, true, [.int .i64 0, .int .i64 0, .int .i64 0, .int .i64 0, .int .i64 0, .arr (.emp (.vecs 297 2)), .bool false, .int .i64 0, .int .i64 0, .int .i64 0, .int .i64 0, .int .i64 0, .int .i64 0, .int .i64 0, .int .i64 0, .int .i64 0, .arr (.emp (.vecs 297 2)), .arr (.emp (.ints 3 .i64))], none, 0, none, [0, 1, 2, 3, 4, 5, 6, 7, 11], [1, 1, 1, 1, 1, 1, 1, 4, 7], [3, 3, 3, 3, 3, 90, 4, 268, 270], [.int .i64, .int .i64, .int .i64, .int .i64, .int .i64, .sl 90, .bool, .int .i64, .int .i64, .int .i64, .int .i64, .int .i64, .int .i64, .int .i64, .int .i64, .int .i64, .sl 90, .sl 24], false⟩),
  (286, ⟨3, true, [.int .i64 0, .int .i64 0, .int .i64 0], none, 0, none, [0, 1, 2], [1, 1, 1], [3, 3, 3], [.int .i64, .int .i64, .int .i64], true⟩),
  (287, ⟨3, true, [.int .i64 0, .int .i64 0, .int .i64 0], none, 0, none, [0, 1, 2], [1, 1, 1], [3, 3, 3], [.int .i64, .int .i64, .int .i64], true⟩),
  (293, ⟨1, false, [.arr (.emp (.rows 405))], some (.rows 405), 3, none, [], [], [], [.sl 293], false⟩),
  (294, ⟨15, true, [.int .i64 0, .int .i64 0, .int .i64 0, .int .i64 0, .int .i64 0, .int .i64 0, .arr (.emp (.ints 3 .i64)), .arr (.emp (.vecs 299 3)), .arr (.emp (.vecs 297 2)), .arr (.emp (.rows 405)), .bool false, .int .i64 0, .int .i64 0, .int .i64 0, .int .i64 0], none, 0, none, [0, 1, 2, 3, 4, 5, 6, 7, 8, 9, 10, 11], [1, 1, 1, 1, 1, 1, 1, 1, 1, 1, 1, 4], [3, 3, 3, 3, 3, 3, 24, 91, 90, 293, 4, 268], [.int .i64, .int .i64, .int .i64, .int .i64, .int .i64, .int .i64, .sl 24, .sl 91, .sl 90, .sl 293, .bool, .int .i64, .int .i64, .int .i64, .int .i64], false⟩),
  (295, ⟨15, true, [.int .i64 0, .int .i64 0, .int .i64 0, .int .i64 0, .int .i64 0, .int .i64 0, .arr (.emp (.ints 3 .i64)), .arr (.emp (.vecs 299 3)), .arr (.emp (.vecs 297 2)), .arr (.emp (.rows 405)), .bool false, .int .i64 0, .int .i64 0, .int .i64 0, .int .i64 0], none, 0, none, [0, 1, 2, 3, 4, 5, 6, 7, 8, 9, 10, 11], [1, 1, 1, 1, 1, 1, 1, 1, 1, 1, 1, 4], [3, 3, 3, 3, 3, 3, 24, 91, 90, 293, 4, 268], [.int .i64, .int .i64, .int .i64, .int .i64, .int .i64, .int .i64, .sl 24, .sl 91, .sl 90, .sl 293, .bool, .int .i64, .int .i64, .int .i64, .int .i64], false⟩),
  (297, ⟨2, true, [.int .i64 0, .int .i64 0], none, 0, none, [0, 1], [1, 1], [3, 3], [.int .i64, .int .i64], true⟩),
  (299, ⟨3, true, [.int .i64 0, .int .i64 0, .int .i64 0], none, 0, none, [0, 1, 2], [1, 1, 1], [3, 3, 3], [.int .i64, .int .i64, .int .i64], true⟩),
  (307, ⟨1, false, [.arr (.emp (.vecs 409 4))], some (.vecs 409 4), 4, none, [], [], [], [.sl 307], false⟩),
  (308, ⟨1, true, [.arr (.emp (.vecs 409 4))], none, 0, none, [0], [1], [307], [.sl 307], false⟩),
  (309, ⟨1, true, [.arr (.emp (.vecs 409 4))], none, 0, none, [0], [1], [307], [.sl 307], false⟩),
  (311, ⟨4, true, [.int .i64 0, .int .i64 0, .int .i64 0, .int .i64 0], none, 0, none, [0, 1, 2, 3], [1, 1, 1, 1], [3, 3, 3, 3], [.int .i64, .int .i64, .int .i64, .int .i64], true⟩),
  (312, ⟨4, true, [.int .i64 0, .int .i64 0, .int .i64 0, .int .i64 0], none, 0, none, [0, 1, 2, 3], [1, 1, 1, 1], [3, 3, 3, 3], [.int .i64, .int .i64, .int .i64, .int .i64], true⟩),
  (316, ⟨2, true, [.arr (.emp (.vecs 409 4)), .arr (.emp (.rows 309))], none, 0, none, [0, 1], [1, 1], [307, 112], [.sl 307, .sl 112], false⟩),
  (317, ⟨2, true, [.arr (.emp (.vecs 409 4)), .arr (.emp (.rows 309))], none, 0, none, [0, 1], [1, 1], [307, 112], [.sl 307, .sl 112], false⟩),
  (319, ⟨3, true, [.int .i64 0, .int .i64 0, .int .i64 0], none, 0, none, [0, 1, 2], [1, 1, 1], [3, 3, 3], [.int .i64, .int .i64, .int .i64], true⟩),
  (320, ⟨3, true, [.int .i64 0, .int .i64 0, .int .i64 0], none, 0, none, [0, 1, 2], [1, 1, 1], [3, 3, 3], [.int .i64, .int .i64, .int .i64], true⟩),
  (322, ⟨3, true, [.int .i64 0, .int .i64 0, .int .i64 0], none, 0, none, [0, 1, 2], [1, 1, 1], [3, 3, 3], [.int .i64, .int .i64, .int .i64], true⟩),
  (326, ⟨1, false, [.arr (.emp (.bools 4))], some (.bools 4), 1, none, [], [], [], [.sl 326], false⟩),
  (327, ⟨5, true, [.int .i64 0, .arr (.emp (.ints 3 .i64)), .arr (.emp (.ints 3 .i64)), .arr (.emp (.ints 3 .i64)), .int .i64 0], none, 0, none, [0, 1, 2], [1, 1, 3], [3, 24, 135], [.int .i64, .sl 24, .sl 24, .sl 24, .int .i64], false⟩),
  (328, ⟨5, true, [.int .i64 0, .arr (.emp (.ints 3 .i64)), .arr (.emp (.ints 3 .i64)), .arr (.emp (.ints 3 .i64)), .int .i64 0], none, 0, none, [0, 1, 2], [1, 1, 3], [3, 24, 135], [.int .i64, .sl 24, .sl 24, .sl 24, .int .i64], false⟩),
  (334, ⟨1, false, [.int .i64 0], none, 0, none, [], [], [], [.int .i64], false⟩),
  (341, ⟨1, false, [.int .u32 0], none, 0, none, [], [], [], [.int .u32], false⟩),
  (343, ⟨1, false, [.int .u64 0], none, 0, none, [], [], [], [.int .u64], false⟩),
  (354, ⟨3, true, [.int .i64 0, .int .i64 0, .int .i64 0], none, 0, none, [0, 1, 2], [1, 1, 1], [3, 3, 3], [.int .i64, .int .i64, .int .i64], true⟩),
  (367, ⟨3, true, [.int .i64 0, .int .i64 0, .arr (.emp (.ints 3 .i64))], none, 0, none, [0, 1, 2], [1, 1, 1], [3, 3, 24], [.int .i64, .int .i64, .sl 24], false⟩),
  (368, ⟨3, true, [.int .i64 0, .int .i64 0, .arr (.emp (.ints 3 .i64))], none, 0, none, [0, 1, 2], [1, 1, 1], [3, 3, 24], [.int .i64, .int .i64, .sl 24], false⟩),
  (376, ⟨1, false, [.arr (.emp (.rows 378))], some (.rows 378), 5, none, [], [], [], [.sl 376], false⟩),
  (377, ⟨5, true, [.int .i64 0, .arr (.emp (.ints 3 .i64)), .arr (.emp (.ints 3 .i64)), .arr (.emp (.ints 3 .i64)), .int .i64 0], none, 0, none, [0, 1, 2], [1, 1, 3], [3, 24, 135], [.int .i64, .sl 24, .sl 24, .sl 24, .int .i64], false⟩),
  (378, ⟨5, true, [.int .i64 0, .arr (.emp (.ints 3 .i64)), .arr (.emp (.ints 3 .i64)), .arr (.emp (.ints 3 .i64)), .int .i64 0], none, 0, none, [0, 1, 2], [1, 1, 3], [3, 24, 135], [.int .i64, .sl 24, .sl 24, .sl 24, .int .i64], false⟩),
  (380, ⟨1, false, [.arr (.emp (.rows 382))], some (.rows 382), 5, none, [], [], [], [.sl 380], false⟩),
  (381, ⟨5, true, [.int .i64 0, .arr (.emp (.ints 3 .i64)), .arr (.emp (.ints 3 .i64)), .arr (.emp (.ints 3 .i64)), .int .i64 0], none, 0, none, [0, 1, 2], [1, 1, 3], [3, 24, 135], [.int .i64, .sl 24, .sl 24, .sl 24, .int .i64], false⟩),
  (382, ⟨5, true, [.int .i64 0, .arr (.emp (.ints 3 .i64)), .arr (.emp (.ints 3 .i64)), .arr (.emp (.ints 3 .i64)), .int .i64 0], none, 0, none, [0, 1, 2], [1, 1, 3], [3, 24, 135], [.int .i64, .sl 24, .sl 24, .sl 24, .int .i64], false⟩),
  (385, ⟨1, false, [.int .u64 0], none, 0, none, [], [], [], [.int .u64], false⟩),
  (394, ⟨5, true, [.int .i64 0, .int .i64 0, .int .i64 0, .int .i64 0, .arr (.emp (.ints 3 .i64))], none, 0, none, [0, 1, 2, 3, 4], [1, 1, 1, 1, 1], [3, 3, 3, 3, 24], [.int .i64, .int .i64, .int .i64, .int .i64, .sl 24], false⟩),
  (395, ⟨5, true, [.int .i64 0, .int .i64 0, .int .i64 0, .int .i64 0, .arr (.emp (.ints 3 .i64))], none, 0, none, [0, 1, 2, 3, 4], [1, 1, 1, 1, 1], [3, 3, 3, 3, 24], [.int .i64, .int .i64, .int .i64, .int .i64, .sl 24], false⟩),
  (396, ⟨5, true, [.int .i64 0, .int .i64 0, .int .i64 0, .int .i64 0, .arr (.emp (.ints 3 .i64))], none, 0, none, [0, 1, 2, 3, 4], [1, 1, 1, 1, 1], [3, 3, 3, 3, 24], [.int .i64, .int .i64, .int .i64, .int .i64, .sl 24], false⟩),
  (398, ⟨3, true, [.int .i64 0, .int .i64 0, .int .i64 0], none, 0, none, [0, 1, 2], [1, 1, 1], [3, 3, 3], [.int .i64, .int .i64, .int .i64], true⟩),
  (399, ⟨3, true, [.int .i64 0, .int .i64 0, .int .i64 0], none, 0, none, [0, 1, 2], [1, 1, 1], [3, 3, 3], [.int .i64, .int .i64, .int .i64], true⟩),
  (401, ⟨3, true, [.int .i64 0, .int .i64 0, .int .i64 0], none, 0, none, [0, 1, 2], [1, 1, 1], [3, 3, 3], [.int .i64, .int .i64, .int .i64], true⟩),
  (405, ⟨3, true, [.int .i64 0, .int .i64 0, .arr (.emp (.ints 3 .i64))], none, 0, none, [0, 1, 2], [1, 1, 1], [3, 3, 24], [.int .i64, .int .i64, .sl 24], false⟩),
  (409, ⟨4, true, [.int .i64 0, .int .i64 0, .int .i64 0, .int .i64 0], none, 0, none, [0, 1, 2, 3], [1, 1, 1, 1], [3, 3, 3, 3], [.int .i64, .int .i64, .int .i64, .int .i64], true⟩),
  (423, ⟨1, false, [.int .u8 0], none, 0, none, [], [], [], [.int .u8], false⟩),
  (424, ⟨1, false, [.int .u8 0], none, 0, none, [], [], [], [.int .u8], false⟩),
  (427, ⟨1, false, [.int .i32 0], none, 0, none, [], [], [], [.int .i32], false⟩),
  (428, ⟨1, false, [.int .i32 0], none, 0, none, [], [], [], [.int .i32], false⟩)]
theorem mixed : Try.prog.follows .mixedOrders = true := by kernel_rfl
theorem cx_ok : PM.CxOk Try.prog cx := PM.cxChk_ok (by kernel_rfl)
theorem cx_read : PM.CxRead Try.prog cx := PM.cxRead_ok (by kernel_rfl)

theorem cx_at2 : PM.find cx 2 = some ⟨1, false, [.int .i64 0], none, 0, none, [], [], [], [.int .i64], false⟩ := by kernel_rfl
theorem cx_at3 : PM.find cx 3 = some ⟨1, false, [.int .i64 0], none, 0, none, [], [], [], [.int .i64], false⟩ := by kernel_rfl
theorem cx_at4 : PM.find cx 4 = some ⟨1, false, [.bool false], none, 0, none, [], [], [], [.bool], false⟩ := by kernel_rfl
theorem cx_at5 : PM.find cx 5 = some ⟨1, false, [.int .u8 0], none, 0, none, [], [], [], [.int .u8], false⟩ := by kernel_rfl
theorem cx_at6 : PM.find cx 6 = some ⟨1, false, [.int .u8 0], none, 0, none, [], [], [], [.int .u8], false⟩ := by kernel_rfl
theorem cx_at7 : PM.find cx 7 = some ⟨4, true, [.int .i64 0, .int .i64 0, .bool false, .int .u8 0], none, 0, none, [0, 1, 2, 3], [1, 1, 1, 1], [2, 3, 4, 6], [.int .i64, .int .i64, .bool, .int .u8], true⟩ := by kernel_rfl
theorem cx_at8 : PM.find cx 8 = some ⟨4, true, [.int .i64 0, .int .i64 0, .bool false, .int .u8 0], none, 0, none, [0, 1, 2, 3], [1, 1, 1, 1], [2, 3, 4, 6], [.int .i64, .int .i64, .bool, .int .u8], true⟩ := by kernel_rfl
theorem cx_at12 : PM.find cx 12 = some ⟨1, false, [.int .u64 0], none, 0, none, [], [], [], [.int .u64], false⟩ := by kernel_rfl
theorem cx_at21 : PM.find cx 21 = some ⟨1, false, [.int .i32 0], none, 0, none, [], [], [], [.int .i32], false⟩ := by kernel_rfl
theorem cx_at22 : PM.find cx 22 = some ⟨1, false, [.arr (.emp (.ints 5 .u8))], some (.ints 5 .u8), 1, none, [], [], [], [.sl 22], false⟩ := by kernel_rfl
theorem cx_at24 : PM.find cx 24 = some ⟨1, false, [.arr (.emp (.ints 3 .i64))], some (.ints 3 .i64), 1, none, [], [], [], [.sl 24], false⟩ := by kernel_rfl
theorem cx_at25 : PM.find cx 25 = some ⟨1, false, [.arr (.emp (.rows 33))], some (.rows 33), 3, none, [], [], [], [.sl 25], false⟩ := by kernel_rfl
theorem cx_at31 : PM.find cx 31 = some ⟨1, false, [.arr (.emp (.vecs 161 2))], some (.vecs 161 2), 2, none, [], [], [], [.sl 31], false⟩ := by kernel_rfl
theorem cx_at32 : PM.find cx 32 = some ⟨3, true, [.int .i64 0, .int .i64 0, .arr (.emp (.vecs 161 2))], none, 0, none, [0, 1, 2], [1, 1, 1], [3, 3, 31], [.int .i64, .int .i64, .sl 31], false⟩ := by kernel_rfl
theorem cx_at33 : PM.find cx 33 = some ⟨3, true, [.int .i64 0, .int .i64 0, .arr (.emp (.vecs 161 2))], none, 0, none, [0, 1, 2], [1, 1, 1], [3, 3, 31], [.int .i64, .int .i64, .sl 31], false⟩ := by kernel_rfl
theorem cx_at39 : PM.find cx 39 = some ⟨1, false, [.arr (.emp (.vecs 354 3))], some (.vecs 354 3), 3, none, [], [], [], [.sl 39], false⟩ := by kernel_rfl
theorem cx_at40 : PM.find cx 40 = some ⟨2, true, [.int .i64 0, .arr (.emp (.vecs 354 3))], none, 0, none, [0, 1], [1, 1], [3, 39], [.int .i64, .sl 39], false⟩ := by kernel_rfl
theorem cx_at41 : PM.find cx 41 = some ⟨2, true, [.int .i64 0, .arr (.emp (.vecs 354 3))], none, 0, none, [0, 1], [1, 1], [3, 39], [.int .i64, .sl 39], false⟩ := by kernel_rfl
theorem cx_at42 : PM.find cx 42 = some ⟨2, true, [.arr (.emp (.ints 3 .i64)), .int .i64 0], none, 0, none, [0, 1], [1, 1], [24, 3], [.sl 24, .int .i64], false⟩ := by kernel_rfl
theorem cx_at43 : PM.find cx 43 = some ⟨2, true, [.arr (.emp (.ints 3 .i64)), .int .i64 0], none, 0, none, [0, 1], [1, 1], [24, 3], [.sl 24, .int .i64], false⟩ := by kernel_rfl
theorem cx_at44 : PM.find cx 44 = some ⟨1, false, [.arr (.emp (.vecs 277 3))], some (.vecs 277 3), 3, none, [], [], [], [.sl 44], false⟩ := by kernel_rfl
theorem cx_at45 : PM.find cx 45 = some ⟨1, false, [.arr (.emp (.rows 272))], some (.rows 272), 40, none, [], [], [], [.sl 45], false⟩ := by kernel_rfl
theorem cx_at46 : PM.find cx 46 = some ⟨1, false, [.arr (.emp (.rows 195))], some (.rows 195), 3, none, [], [], [], [.sl 46], false⟩ := by kernel_rfl
theorem cx_at47 : PM.find cx 47 = some ⟨9, true, [.int .i64 0, .int .i64 0, .int .i64 0, .arr (.emp (.vecs 354 3)), .arr (.emp (.ints 3 .i64)), .int .i64 0, .arr (.emp (.vecs 277 3)), .arr (.emp (.rows 272)), .arr (.emp (.rows 195))], none, 0, none, [0, 1, 2, 4, 6, 7, 8], [1, 1, 2, 2, 1, 1, 1], [3, 3, 41, 43, 44, 45, 46], [.int .i64, .int .i64, .int .i64, .sl 39, .sl 24, .int .i64, .sl 44, .sl 45, .sl 46], false⟩ := by kernel_rfl
theorem cx_at48 : PM.find cx 48 = some ⟨9, true, [.int .i64 0, .int .i64 0, .int .i64 0, .arr (.emp (.vecs 354 3)), .arr (.emp (.ints 3 .i64)), .int .i64 0, .arr (.emp (.vecs 277 3)), .arr (.emp (.rows 272)), .arr (.emp (.rows 195))], none, 0, none, [0, 1, 2, 4, 6, 7, 8], [1, 1, 2, 2, 1, 1, 1], [3, 3, 41, 43, 44, 45, 46], [.int .i64, .int .i64, .int .i64, .sl 39, .sl 24, .int .i64, .sl 44, .sl 45, .sl 46], false⟩ := by kernel_rfl
theorem cx_at51 : PM.find cx 51 = some ⟨1, false, [.arr (.emp (.vecs 287 3))], some (.vecs 287 3), 3, none, [], [], [], [.sl 51], false⟩ := by kernel_rfl
theorem cx_at52 : PM.find cx 52 = some ⟨2, true, [.int .i64 0, .arr (.emp (.vecs 287 3))], none, 0, none, [0, 1], [1, 1], [3, 51], [.int .i64, .sl 51], false⟩ := by kernel_rfl
theorem cx_at53 : PM.find cx 53 = some ⟨2, true, [.int .i64 0, .arr (.emp (.vecs 287 3))], none, 0, none, [0, 1], [1, 1], [3, 51], [.int .i64, .sl 51], false⟩ := by kernel_rfl
theorem cx_at54 : PM.find cx 54 = some ⟨2, true, [.arr (.emp (.ints 3 .i64)), .int .i64 0], none, 0, none, [0, 1], [1, 1], [24, 3], [.sl 24, .int .i64], false⟩ := by kernel_rfl
theorem cx_at55 : PM.find cx 55 = some ⟨1, false, [.arr (.emp (.vecs 275 3))], some (.vecs 275 3), 3, none, [], [], [], [.sl 55], false⟩ := by kernel_rfl
theorem cx_at56 : PM.find cx 56 = some ⟨1, false, [.arr (.emp (.rows 175))], some (.rows 175), 40, none, [], [], [], [.sl 56], false⟩ := by kernel_rfl
theorem cx_at57 : PM.find cx 57 = some ⟨9, true, [.int .i64 0, .int .i64 0, .int .i64 0, .arr (.emp (.vecs 287 3)), .arr (.emp (.ints 3 .i64)), .int .i64 0, .arr (.emp (.vecs 275 3)), .arr (.emp (.rows 175)), .arr (.emp (.rows 33))], none, 0, none, [0, 1, 2, 4, 6, 7, 8], [1, 1, 2, 2, 1, 1, 1], [3, 3, 53, 54, 55, 56, 25], [.int .i64, .int .i64, .int .i64, .sl 51, .sl 24, .int .i64, .sl 55, .sl 56, .sl 25], false⟩ := by kernel_rfl
theorem cx_at58 : PM.find cx 58 = some ⟨9, true, [.int .i64 0, .int .i64 0, .int .i64 0, .arr (.emp (.vecs 287 3)), .arr (.emp (.ints 3 .i64)), .int .i64 0, .arr (.emp (.vecs 275 3)), .arr (.emp (.rows 175)), .arr (.emp (.rows 33))], none, 0, none, [0, 1, 2, 4, 6, 7, 8], [1, 1, 2, 2, 1, 1, 1], [3, 3, 53, 54, 55, 56, 25], [.int .i64, .int .i64, .int .i64, .sl 51, .sl 24, .int .i64, .sl 55, .sl 56, .sl 25], false⟩ := by kernel_rfl
theorem cx_at62 : PM.find cx 62 = some ⟨1, false, [.arr (.emp (.rows 285))], some (.rows 285), 18, none, [], [], [], [.sl 62], false⟩ := by kernel_rfl
theorem cx_at63 : PM.find cx 63 = some ⟨4, true, [.int .i64 0, .arr (.emp (.vecs 354 3)), .arr (.emp (.rows 285)), .arr (.emp (.rows 195))], none, 0, none, [0, 2, 3], [2, 1, 1], [41, 62, 46], [.int .i64, .sl 39, .sl 62, .sl 46], false⟩ := by kernel_rfl
theorem cx_at64 : PM.find cx 64 = some ⟨4, true, [.int .i64 0, .arr (.emp (.vecs 354 3)), .arr (.emp (.rows 285)), .arr (.emp (.rows 195))], none, 0, none, [0, 2, 3], [2, 1, 1], [41, 62, 46], [.int .i64, .sl 39, .sl 62, .sl 46], false⟩ := by kernel_rfl
theorem cx_at68 : PM.find cx 68 = some ⟨1, false, [.arr (.emp (.rows 189))], some (.rows 189), 18, none, [], [], [], [.sl 68], false⟩ := by kernel_rfl
theorem cx_at69 : PM.find cx 69 = some ⟨4, true, [.int .i64 0, .arr (.emp (.vecs 287 3)), .arr (.emp (.rows 189)), .arr (.emp (.rows 33))], none, 0, none, [0, 2, 3], [2, 1, 1], [53, 68, 25], [.int .i64, .sl 51, .sl 68, .sl 25], false⟩ := by kernel_rfl
theorem cx_at70 : PM.find cx 70 = some ⟨4, true, [.int .i64 0, .arr (.emp (.vecs 287 3)), .arr (.emp (.rows 189)), .arr (.emp (.rows 33))], none, 0, none, [0, 2, 3], [2, 1, 1], [53, 68, 25], [.int .i64, .sl 51, .sl 68, .sl 25], false⟩ := by kernel_rfl
theorem cx_at78 : PM.find cx 78 = some ⟨1, false, [.arr (.emp (.rows 203))], some (.rows 203), 2, none, [], [], [], [.sl 78], false⟩ := by kernel_rfl
theorem cx_at81 : PM.find cx 81 = some ⟨1, false, [.arr (.emp (.rows 205))], some (.rows 205), 2, none, [], [], [], [.sl 81], false⟩ := by kernel_rfl
theorem cx_at90 : PM.find cx 90 = some ⟨1, false, [.arr (.emp (.vecs 297 2))], some (.vecs 297 2), 2, none, [], [], [], [.sl 90], false⟩ := by kernel_rfl
theorem cx_at91 : PM.find cx 91 = some ⟨1, false, [.arr (.emp (.vecs 299 3))], some (.vecs 299 3), 3, none, [], [], [], [.sl 91], false⟩ := by kernel_rfl
theorem cx_at92 : PM.find cx 92 = some ⟨1, false, [.arr (.emp (.rows 295))], some (.rows 295), 15, none, [], [], [], [.sl 92], false⟩ := by kernel_rfl
theorem cx_at93 : PM.find cx 93 = some ⟨10, true, [.int .i64 0, .int .i64 0, .int .i64 0, .bool false, .arr (.emp (.ints 3 .i64)), .arr (.emp (.vecs 297 2)), .arr (.emp (.vecs 299 3)), .arr (.emp (.ints 3 .i64)), .arr (.emp (.vecs 297 2)), .arr (.emp (.rows 295))], none, 0, none, [0, 1, 2, 3, 4, 5, 6, 7, 8, 9], [1, 1, 1, 1, 1, 1, 1, 1, 1, 1], [3, 3, 3, 4, 24, 90, 91, 24, 90, 92], [.int .i64, .int .i64, .int .i64, .bool, .sl 24, .sl 90, .sl 91, .sl 24, .sl 90, .sl 92], false⟩ := by kernel_rfl
theorem cx_at94 : PM.find cx 94 = some ⟨10, true, [.int .i64 0, .int .i64 0, .int .i64 0, .bool false, .arr (.emp (.ints 3 .i64)), .arr (.emp (.vecs 297 2)), .arr (.emp (.vecs 299 3)), .arr (.emp (.ints 3 .i64)), .arr (.emp (.vecs 297 2)), .arr (.emp (.rows 295))], none, 0, none, [0, 1, 2, 3, 4, 5, 6, 7, 8, 9], [1, 1, 1, 1, 1, 1, 1, 1, 1, 1], [3, 3, 3, 4, 24, 90, 91, 24, 90, 92], [.int .i64, .int .i64, .int .i64, .bool, .sl 24, .sl 90, .sl 91, .sl 24, .sl 90, .sl 92], false⟩ := by kernel_rfl
theorem cx_at97 : PM.find cx 97 = some ⟨1, false, [.arr (.emp (.vecs 225 3))], some (.vecs 225 3), 3, none, [], [], [], [.sl 97], false⟩ := by kernel_rfl
theorem cx_at98 : PM.find cx 98 = some ⟨1, false, [.arr (.emp (.rows 214))], some (.rows 214), 15, none, [], [], [], [.sl 98], false⟩ := by kernel_rfl
theorem cx_at99 : PM.find cx 99 = some ⟨10, true, [.int .i64 0, .int .i64 0, .int .i64 0, .bool false, .arr (.emp (.ints 3 .i64)), .arr (.emp (.vecs 161 2)), .arr (.emp (.vecs 225 3)), .arr (.emp (.ints 3 .i64)), .arr (.emp (.vecs 161 2)), .arr (.emp (.rows 214))], none, 0, none, [0, 1, 2, 3, 4, 5, 6, 7, 8, 9], [1, 1, 1, 1, 1, 1, 1, 1, 1, 1], [3, 3, 3, 4, 24, 31, 97, 24, 31, 98], [.int .i64, .int .i64, .int .i64, .bool, .sl 24, .sl 31, .sl 97, .sl 24, .sl 31, .sl 98], false⟩ := by kernel_rfl
theorem cx_at100 : PM.find cx 100 = some ⟨10, true, [.int .i64 0, .int .i64 0, .int .i64 0, .bool false, .arr (.emp (.ints 3 .i64)), .arr (.emp (.vecs 161 2)), .arr (.emp (.vecs 225 3)), .arr (.emp (.ints 3 .i64)), .arr (.emp (.vecs 161 2)), .arr (.emp (.rows 214))], none, 0, none, [0, 1, 2, 3, 4, 5, 6, 7, 8, 9], [1, 1, 1, 1, 1, 1, 1, 1, 1, 1], [3, 3, 3, 4, 24, 31, 97, 24, 31, 98], [.int .i64, .int .i64, .int .i64, .bool, .sl 24, .sl 31, .sl 97, .sl 24, .sl 31, .sl 98], false⟩ := by kernel_rfl
theorem cx_at112 : PM.find cx 112 = some ⟨1, false, [.arr (.emp (.rows 309))], some (.rows 309), 1, none, [], [], [], [.sl 112], false⟩ := by kernel_rfl
theorem cx_at113 : PM.find cx 113 = some ⟨5, true, [.arr (.emp (.ints 3 .i64)), .arr (.emp (.ints 3 .i64)), .arr (.emp (.vecs 297 2)), .arr (.emp (.rows 309)), .arr (.emp (.ints 3 .i64))], none, 0, none, [0, 1, 2, 3, 4], [1, 1, 1, 1, 1], [24, 24, 90, 112, 24], [.sl 24, .sl 24, .sl 90, .sl 112, .sl 24], false⟩ := by kernel_rfl
theorem cx_at114 : PM.find cx 114 = some ⟨5, true, [.arr (.emp (.ints 3 .i64)), .arr (.emp (.ints 3 .i64)), .arr (.emp (.vecs 297 2)), .arr (.emp (.rows 309)), .arr (.emp (.ints 3 .i64))], none, 0, none, [0, 1, 2, 3, 4], [1, 1, 1, 1, 1], [24, 24, 90, 112, 24], [.sl 24, .sl 24, .sl 90, .sl 112, .sl 24], false⟩ := by kernel_rfl
theorem cx_at117 : PM.find cx 117 = some ⟨1, false, [.arr (.emp (.rows 233))], some (.rows 233), 1, none, [], [], [], [.sl 117], false⟩ := by kernel_rfl
theorem cx_at118 : PM.find cx 118 = some ⟨5, true, [.arr (.emp (.ints 3 .i64)), .arr (.emp (.ints 3 .i64)), .arr (.emp (.vecs 161 2)), .arr (.emp (.rows 233)), .arr (.emp (.ints 3 .i64))], none, 0, none, [0, 1, 2, 3, 4], [1, 1, 1, 1, 1], [24, 24, 31, 117, 24], [.sl 24, .sl 24, .sl 31, .sl 117, .sl 24], false⟩ := by kernel_rfl
theorem cx_at119 : PM.find cx 119 = some ⟨5, true, [.arr (.emp (.ints 3 .i64)), .arr (.emp (.ints 3 .i64)), .arr (.emp (.vecs 161 2)), .arr (.emp (.rows 233)), .arr (.emp (.ints 3 .i64))], none, 0, none, [0, 1, 2, 3, 4], [1, 1, 1, 1, 1], [24, 24, 31, 117, 24], [.sl 24, .sl 24, .sl 31, .sl 117, .sl 24], false⟩ := by kernel_rfl
theorem cx_at127 : PM.find cx 127 = some ⟨3, true, [.arr (.emp (.ints 3 .i64)), .arr (.emp (.ints 3 .i64)), .int .i64 0], none, 0, none, [0, 1, 2], [1, 1, 1], [24, 24, 3], [.sl 24, .sl 24, .int .i64], false⟩ := by kernel_rfl
theorem cx_at128 : PM.find cx 128 = some ⟨3, true, [.arr (.emp (.ints 3 .i64)), .arr (.emp (.ints 3 .i64)), .int .i64 0], none, 0, none, [0, 1, 2], [1, 1, 1], [24, 24, 3], [.sl 24, .sl 24, .int .i64], false⟩ := by kernel_rfl
theorem cx_at129 : PM.find cx 129 = some ⟨1, false, [.arr (.emp (.rows 317))], some (.rows 317), 2, none, [], [], [], [.sl 129], false⟩ := by kernel_rfl
theorem cx_at130 : PM.find cx 130 = some ⟨1, false, [.arr (.emp (.vecs 322 3))], some (.vecs 322 3), 3, none, [], [], [], [.sl 130], false⟩ := by kernel_rfl
theorem cx_at131 : PM.find cx 131 = some ⟨5, true, [.arr (.emp (.ints 3 .i64)), .arr (.emp (.ints 3 .i64)), .int .i64 0, .arr (.emp (.rows 317)), .arr (.emp (.vecs 322 3))], none, 0, none, [0, 3, 4], [3, 1, 1], [128, 129, 130], [.sl 24, .sl 24, .int .i64, .sl 129, .sl 130], false⟩ := by kernel_rfl
theorem cx_at132 : PM.find cx 132 = some ⟨5, true, [.arr (.emp (.ints 3 .i64)), .arr (.emp (.ints 3 .i64)), .int .i64 0, .arr (.emp (.rows 317)), .arr (.emp (.vecs 322 3))], none, 0, none, [0, 3, 4], [3, 1, 1], [128, 129, 130], [.sl 24, .sl 24, .int .i64, .sl 129, .sl 130], false⟩ := by kernel_rfl
theorem cx_at135 : PM.find cx 135 = some ⟨3, true, [.arr (.emp (.ints 3 .i64)), .arr (.emp (.ints 3 .i64)), .int .i64 0], none, 0, none, [0, 1, 2], [1, 1, 1], [24, 24, 3], [.sl 24, .sl 24, .int .i64], false⟩ := by kernel_rfl
theorem cx_at136 : PM.find cx 136 = some ⟨1, false, [.arr (.emp (.rows 242))], some (.rows 242), 2, none, [], [], [], [.sl 136], false⟩ := by kernel_rfl
theorem cx_at137 : PM.find cx 137 = some ⟨1, false, [.arr (.emp (.vecs 320 3))], some (.vecs 320 3), 3, none, [], [], [], [.sl 137], false⟩ := by kernel_rfl
theorem cx_at138 : PM.find cx 138 = some ⟨5, true, [.arr (.emp (.ints 3 .i64)), .arr (.emp (.ints 3 .i64)), .int .i64 0, .arr (.emp (.rows 242)), .arr (.emp (.vecs 320 3))], none, 0, none, [0, 3, 4], [3, 1, 1], [135, 136, 137], [.sl 24, .sl 24, .int .i64, .sl 136, .sl 137], false⟩ := by kernel_rfl
theorem cx_at139 : PM.find cx 139 = some ⟨5, true, [.arr (.emp (.ints 3 .i64)), .arr (.emp (.ints 3 .i64)), .int .i64 0, .arr (.emp (.rows 242)), .arr (.emp (.vecs 320 3))], none, 0, none, [0, 3, 4], [3, 1, 1], [135, 136, 137], [.sl 24, .sl 24, .int .i64, .sl 136, .sl 137], false⟩ := by kernel_rfl
theorem cx_at160 : PM.find cx 160 = some ⟨2, true, [.int .i64 0, .int .i64 0], none, 0, none, [0, 1], [1, 1], [3, 3], [.int .i64, .int .i64], true⟩ := by kernel_rfl
theorem cx_at161 : PM.find cx 161 = some ⟨2, true, [.int .i64 0, .int .i64 0], none, 0, none, [0, 1], [1, 1], [3, 3], [.int .i64, .int .i64], true⟩ := by kernel_rfl
theorem cx_at168 : PM.find cx 168 = some ⟨1, false, [.arr (.emp (.rows 396))], some (.rows 396), 5, none, [], [], [], [.sl 168], false⟩ := by kernel_rfl
theorem cx_at169 : PM.find cx 169 = some ⟨1, false, [.arr (.emp (.vecs 399 3))], some (.vecs 399 3), 3, none, [], [], [], [.sl 169], false⟩ := by kernel_rfl
theorem cx_at170 : PM.find cx 170 = some ⟨4, true, [.int .i64 0, .int .i64 0, .int .i64 0, .int .i64 0], none, 0, none, [0, 1, 2, 3], [1, 1, 1, 1], [3, 3, 3, 3], [.int .i64, .int .i64, .int .i64, .int .i64], true⟩ := by kernel_rfl
theorem cx_at171 : PM.find cx 171 = some ⟨4, true, [.int .i64 0, .int .i64 0, .int .i64 0, .int .i64 0], none, 0, none, [0, 1, 2, 3], [1, 1, 1, 1], [3, 3, 3, 3], [.int .i64, .int .i64, .int .i64, .int .i64], true⟩ := by kernel_rfl
theorem cx_at172 : PM.find cx 172 = some ⟨7, true, [.int .i64 0, .int .i64 0, .int .i64 0, .int .i64 0, .int .i64 0, .arr (.emp (.vecs 161 2)), .arr (.emp (.ints 3 .i64))], none, 0, none, [0, 1, 2, 3, 4, 5, 6], [1, 1, 1, 1, 1, 1, 1], [3, 3, 3, 3, 3, 31, 24], [.int .i64, .int .i64, .int .i64, .int .i64, .int .i64, .sl 31, .sl 24], false⟩ := by kernel_rfl
theorem cx_at173 : PM.find cx 173 = some ⟨7, true, [.int .i64 0, .int .i64 0, .int .i64 0, .int .i64 0, .int .i64 0, .arr (.emp (.vecs 161 2)), .arr (.emp (.ints 3 .i64))], none, 0, none, [0, 1, 2, 3, 4, 5, 6], [1, 1, 1, 1, 1, 1, 1], [3, 3, 3, 3, 3, 31, 24], [.int .i64, .int .i64, .int .i64, .int .i64, .int .i64, .sl 31, .sl 24], false⟩ := by kernel_rfl
theorem cx_at174 : PM.find cx 174 = some ⟨40, true, [.int .i64 0, .int .i64 0, .int .i64 0, .int .i64 0, .int .i64 0, .int .i64 0, .int .i64 0, .int .i64 0, .int .i64 0, .int .i64 0, .int .i64 0, .bool false, .arr (.emp (.ints 3 .i64)), .arr (.emp (.vecs 161 2)), .arr (.emp (.vecs 161 2)), .arr (.emp (.rows 396)), .arr (.emp (.vecs 399 3)), .arr (.emp (.ints 3 .i64)), .bool false, .int .i64 0, .int .i64 0, .int .i64 0, .int .i64 0, .int .i64 0, .int .i64 0, .int .i64 0, .int .i64 0, .int .i64 0, .arr (.emp (.vecs 161 2)), .arr (.emp (.ints 3 .i64)), .int .i64 0, .int .i64 0, .int .i64 0, .bool false, .arr (.emp (.ints 3 .i64)), .arr (.emp (.vecs 161 2)), .arr (.emp (.vecs 225 3)), .arr (.emp (.ints 3 .i64)), .arr (.emp (.vecs 161 2)), .arr (.emp (.rows 214))], none, 0, none, [0, 1, 2, 3, 4, 5, 6, 7, 8, 9, 10, 11, 12, 13, 14, 15, 16, 17, 18, 19, 23, 30], [1, 1, 1, 1, 1, 1, 1, 1, 1, 1, 1, 1, 1, 1, 1, 1, 1, 1, 1, 4, 7, 10], [3, 3, 3, 3, 3, 3, 3, 3, 3, 3, 3, 4, 24, 31, 31, 168, 169, 24, 4, 171, 173, 100], [.int .i64, .int .i64, .int .i64, .int .i64, .int .i64, .int .i64, .int .i64, .int .i64, .int .i64, .int .i64, .int .i64, .bool, .sl 24, .sl 31, .sl 31, .sl 168, .sl 169, .sl 24, .bool, .int .i64, .int .i64, .int .i64, .int .i64, .int .i64, .int .i64, .int .i64, .int .i64, .int .i64, .sl 31, .sl 24, .int .i64, .int .i64, .int .i64, .bool, .sl 24, .sl 31, .sl 97, .sl 24, .sl 31, .sl 98], false⟩ := by kernel_rfl
theorem cx_at175 : PM.find cx 175 = some ⟨40, true, [.int .i64 0, .int .i64 0, .int .i64 0, .int .i64 0, .int .i64 0, .int .i64 0, .int .i64 0, .int .i64 0, .int .i64 0, .int .i64 0, .int .i64 0, .bool false, .arr (.emp (.ints 3 .i64)), .arr (.emp (.vecs 161 2)), .arr (.emp (.vecs 161 2)), .arr (.emp (.rows 396)), .arr (.emp (.vecs 399 3)), .arr (.emp (.ints 3 .i64)), .bool false, .int .i64 0, .int .i64 0, .int .i64 0, .int .i64 0, .int .i64 0, .int .i64 0, .int .i64 0, .int .i64 0, .int .i64 0, .arr (.emp (.vecs 161 2)), .arr (.emp (.ints 3 .i64)), .int .i64 0, .int .i64 0, .int .i64 0, .bool false, .arr (.emp (.ints 3 .i64)), .arr (.emp (.vecs 161 2)), .arr (.emp (.vecs 225 3)), .arr (.emp (.ints 3 .i64)), .arr (.emp (.vecs 161 2)), .arr (.emp (.rows 214))], none, 0, none, [0, 1, 2, 3, 4, 5, 6, 7, 8, 9, 10, 11, 12, 13, 14, 15, 16, 17, 18, 19, 23, 30], [1, 1, 1, 1, 1, 1, 1, 1, 1, 1, 1, 1, 1, 1, 1, 1, 1, 1, 1, 4, 7, 10], [3, 3, 3, 3, 3, 3, 3, 3, 3, 3, 3, 4, 24, 31, 31, 168, 169, 24, 4, 171, 173, 100], [.int .i64, .int .i64, .int .i64, .int .i64, .int .i64, .int .i64, .int .i64, .int .i64, .int .i64, .int .i64, .int .i64, .bool, .sl 24, .sl 31, .sl 31, .sl 168, .sl 169, .sl 24, .bool, .int .i64, .int .i64, .int .i64, .int .i64, .int .i64, .int .i64, .int .i64, .int .i64, .int .i64, .sl 31, .sl 24, .int .i64, .int .i64, .int .i64, .bool, .sl 24, .sl 31, .sl 97, .sl 24, .sl 31, .sl 98], false⟩ := by kernel_rfl
theorem cx_at188 : PM.find cx 188 = some ⟨18, true, [.int .i64 0, .int .i64 0, .int .i64 0, .int .i64 0, .int .i64 0, .arr (.emp (.vecs 161 2)), .bool false, .int .i64 0, .int .i64 0, .int .i64 0, .int .i64 0, .int .i64 0, .int .i64 0, .int .i64 0, .int .i64 0, .int .i64 0, .arr (.emp (.vecs 161 2)), .arr (.emp (.ints 3 .i64))], none, 0, none, [0, 1, 2, 3, 4, 5, 6, 7, 11], [1, 1, 1, 1, 1, 1, 1, 4, 7], [3, 3, 3, 3, 3, 31, 4, 171, 173], [.int .i64, .int .i64, .int .i64, .int .i64, .int .i64, .sl 31, .bool, .int .i64, .int .i64, .int .i64, .int .i64, .int .i64, .int .i64, .int .i64, .int .i64, .int .i64, .sl 31, .sl 24], false⟩ := by kernel_rfl
theorem cx_at189 : PM.find cx 189 = some ⟨18, true, [.int .i64 0, .int .i64 0, .int .i64 0, .int .i64 0, .int .i64 0, .arr (.emp (.vecs 161 2)), .bool false, .int .i64 0, .int .i64 0, .int .i64 0, .int .i64 0, .int .i64 0, .int .i64 0, .int .i64 0, .int .i64 0, .int .i64 0, .arr (.emp (.vecs 161 2)), .arr (.emp (.ints 3 .i64))], none, 0, none, [0, 1, 2, 3, 4, 5, 6, 7, 11], [1, 1, 1, 1, 1, 1, 1, 4, 7], [3, 3, 3, 3, 3, 31, 4, 171, 173], [.int .i64, .int .i64, .int .i64, .int .i64, .int .i64, .sl 31, .bool, .int .i64, .int .i64, .int .i64, .int .i64, .int .i64, .int .i64, .int .i64, .int .i64, .int .i64, .sl 31, .sl 24], false⟩ := by kernel_rfl
theorem cx_at194 : PM.find cx 194 = some ⟨3, true, [.int .i64 0, .int .i64 0, .arr (.emp (.vecs 297 2))], none, 0, none, [0, 1, 2], [1, 1, 1], [3, 3, 90], [.int .i64, .int .i64, .sl 90], false⟩ := by kernel_rfl
theorem cx_at195 : PM.find cx 195 = some ⟨3, true, [.int .i64 0, .int .i64 0, .arr (.emp (.vecs 297 2))], none, 0, none, [0, 1, 2], [1, 1, 1], [3, 3, 90], [.int .i64, .int .i64, .sl 90], false⟩ := by kernel_rfl
theorem cx_at202 : PM.find cx 202 = some ⟨2, true, [.arr (.emp (.ints 3 .i64)), .arr (.emp (.vecs 297 2))], none, 0, none, [0, 1], [1, 1], [24, 90], [.sl 24, .sl 90], false⟩ := by kernel_rfl
theorem cx_at203 : PM.find cx 203 = some ⟨2, true, [.arr (.emp (.ints 3 .i64)), .arr (.emp (.vecs 297 2))], none, 0, none, [0, 1], [1, 1], [24, 90], [.sl 24, .sl 90], false⟩ := by kernel_rfl
theorem cx_at204 : PM.find cx 204 = some ⟨2, true, [.arr (.emp (.ints 3 .i64)), .arr (.emp (.vecs 161 2))], none, 0, none, [0, 1], [1, 1], [24, 31], [.sl 24, .sl 31], false⟩ := by kernel_rfl
theorem cx_at205 : PM.find cx 205 = some ⟨2, true, [.arr (.emp (.ints 3 .i64)), .arr (.emp (.vecs 161 2))], none, 0, none, [0, 1], [1, 1], [24, 31], [.sl 24, .sl 31], false⟩ := by kernel_rfl
theorem cx_at212 : PM.find cx 212 = some ⟨1, false, [.arr (.emp (.rows 368))], some (.rows 368), 3, none, [], [], [], [.sl 212], false⟩ := by kernel_rfl
theorem cx_at213 : PM.find cx 213 = some ⟨15, true, [.int .i64 0, .int .i64 0, .int .i64 0, .int .i64 0, .int .i64 0, .int .i64 0, .arr (.emp (.ints 3 .i64)), .arr (.emp (.vecs 225 3)), .arr (.emp (.vecs 161 2)), .arr (.emp (.rows 368)), .bool false, .int .i64 0, .int .i64 0, .int .i64 0, .int .i64 0], none, 0, none, [0, 1, 2, 3, 4, 5, 6, 7, 8, 9, 10, 11], [1, 1, 1, 1, 1, 1, 1, 1, 1, 1, 1, 4], [3, 3, 3, 3, 3, 3, 24, 97, 31, 212, 4, 171], [.int .i64, .int .i64, .int .i64, .int .i64, .int .i64, .int .i64, .sl 24, .sl 97, .sl 31, .sl 212, .bool, .int .i64, .int .i64, .int .i64, .int .i64], false⟩ := by kernel_rfl
theorem cx_at214 : PM.find cx 214 = some ⟨15, true, [.int .i64 0, .int .i64 0, .int .i64 0, .int .i64 0, .int .i64 0, .int .i64 0, .arr (.emp (.ints 3 .i64)), .arr (.emp (.vecs 225 3)), .arr (.emp (.vecs 161 2)), .arr (.emp (.rows 368)), .bool false, .int .i64 0, .int .i64 0, .int .i64 0, .int .i64 0], none, 0, none, [0, 1, 2, 3, 4, 5, 6, 7, 8, 9, 10, 11], [1, 1, 1, 1, 1, 1, 1, 1, 1, 1, 1, 4], [3, 3, 3, 3, 3, 3, 24, 97, 31, 212, 4, 171], [.int .i64, .int .i64, .int .i64, .int .i64, .int .i64, .int .i64, .sl 24, .sl 97, .sl 31, .sl 212, .bool, .int .i64, .int .i64, .int .i64, .int .i64], false⟩ := by kernel_rfl
theorem cx_at224 : PM.find cx 224 = some ⟨3, true, [.int .i64 0, .int .i64 0, .int .i64 0], none, 0, none, [0, 1, 2], [1, 1, 1], [3, 3, 3], [.int .i64, .int .i64, .int .i64], true⟩ := by kernel_rfl
theorem cx_at225 : PM.find cx 225 = some ⟨3, true, [.int .i64 0, .int .i64 0, .int .i64 0], none, 0, none, [0, 1, 2], [1, 1, 1], [3, 3, 3], [.int .i64, .int .i64, .int .i64], true⟩ := by kernel_rfl
theorem cx_at231 : PM.find cx 231 = some ⟨1, false, [.arr (.emp (.vecs 312 4))], some (.vecs 312 4), 4, none, [], [], [], [.sl 231], false⟩ := by kernel_rfl
theorem cx_at232 : PM.find cx 232 = some ⟨1, true, [.arr (.emp (.vecs 312 4))], none, 0, none, [0], [1], [231], [.sl 231], false⟩ := by kernel_rfl
theorem cx_at233 : PM.find cx 233 = some ⟨1, true, [.arr (.emp (.vecs 312 4))], none, 0, none, [0], [1], [231], [.sl 231], false⟩ := by kernel_rfl
theorem cx_at241 : PM.find cx 241 = some ⟨2, true, [.arr (.emp (.vecs 312 4)), .arr (.emp (.rows 233))], none, 0, none, [0, 1], [1, 1], [231, 117], [.sl 231, .sl 117], false⟩ := by kernel_rfl
theorem cx_at242 : PM.find cx 242 = some ⟨2, true, [.arr (.emp (.vecs 312 4)), .arr (.emp (.rows 233))], none, 0, none, [0, 1], [1, 1], [231, 117], [.sl 231, .sl 117], false⟩ := by kernel_rfl
theorem cx_at256 : PM.find cx 256 = some ⟨3, true, [.arr (.emp (.ints 5 .u8)), .int .i64 0, .int .i64 0], none, 0, none, [0, 1, 2], [1, 1, 1], [22, 3, 3], [.sl 22, .int .i64, .int .i64], false⟩ := by kernel_rfl
theorem cx_at257 : PM.find cx 257 = some ⟨3, true, [.arr (.emp (.ints 5 .u8)), .int .i64 0, .int .i64 0], none, 0, none, [0, 1, 2], [1, 1, 1], [22, 3, 3], [.sl 22, .int .i64, .int .i64], false⟩ := by kernel_rfl
theorem cx_at262 : PM.find cx 262 = some ⟨1, false, [.int .u64 0], none, 0, none, [], [], [], [.int .u64], false⟩ := by kernel_rfl
theorem cx_at266 : PM.find cx 266 = some ⟨1, false, [.arr (.emp (.rows 395))], some (.rows 395), 5, none, [], [], [], [.sl 266], false⟩ := by kernel_rfl
theorem cx_at267 : PM.find cx 267 = some ⟨1, false, [.arr (.emp (.vecs 401 3))], some (.vecs 401 3), 3, none, [], [], [], [.sl 267], false⟩ := by kernel_rfl
theorem cx_at268 : PM.find cx 268 = some ⟨4, true, [.int .i64 0, .int .i64 0, .int .i64 0, .int .i64 0], none, 0, none, [0, 1, 2, 3], [1, 1, 1, 1], [3, 3, 3, 3], [.int .i64, .int .i64, .int .i64, .int .i64], true⟩ := by kernel_rfl
theorem cx_at269 : PM.find cx 269 = some ⟨7, true, [.int .i64 0, .int .i64 0, .int .i64 0, .int .i64 0, .int .i64 0, .arr (.emp (.vecs 297 2)), .arr (.emp (.ints 3 .i64))], none, 0, none, [0, 1, 2, 3, 4, 5, 6], [1, 1, 1, 1, 1, 1, 1], [3, 3, 3, 3, 3, 90, 24], [.int .i64, .int .i64, .int .i64, .int .i64, .int .i64, .sl 90, .sl 24], false⟩ := by kernel_rfl
theorem cx_at270 : PM.find cx 270 = some ⟨7, true, [.int .i64 0, .int .i64 0, .int .i64 0, .int .i64 0, .int .i64 0, .arr (.emp (.vecs 297 2)), .arr (.emp (.ints 3 .i64))], none, 0, none, [0, 1, 2, 3, 4, 5, 6], [1, 1, 1, 1, 1, 1, 1], [3, 3, 3, 3, 3, 90, 24], [.int .i64, .int .i64, .int .i64, .int .i64, .int .i64, .sl 90, .sl 24], false⟩ := by kernel_rfl
theorem cx_at271 : PM.find cx 271 = some ⟨40, true, [.int .i64 0, .int .i64 0, .int .i64 0, .int .i64 0, .int .i64 0, .int .i64 0, .int .i64 0, .int .i64 0, .int .i64 0, .int .i64 0, .int .i64 0, .bool false, .arr (.emp (.ints 3 .i64)), .arr (.emp (.vecs 297 2)), .arr (.emp (.vecs 297 2)), .arr (.emp (.rows 395)), .arr (.emp (.vecs 401 3)), .arr (.emp (.ints 3 .i64)), .bool false, .int .i64 0, .int .i64 0, .int .i64 0, .int .i64 0, .int .i64 0, .int .i64 0, .int .i64 0, .int .i64 0, .int .i64 0, .arr (.emp (.vecs 297 2)), .arr (.emp (.ints 3 .i64)), .int .i64 0, .int .i64 0, .int .i64 0, .bool false, .arr (.emp (.ints 3 .i64)), .arr (.emp (.vecs 297 2)), .arr (.emp (.vecs 299 3)), .arr (.emp (.ints 3 .i64)), .arr (.emp (.vecs 297 2)), .arr (.emp (.rows 295))], none, 0, none, [0, 1, 2, 3, 4, 5, 6, 7, 8, 9, 10, 11, 12, 13, 14, 15, 16, 17, 18, 19, 23, 30], [1, 1, 1, 1, 1, 1, 1, 1, 1, 1, 1, 1, 1, 1, 1, 1, 1, 1, 1, 4, 7, 10], [3, 3, 3, 3, 3, 3, 3, 3, 3, 3, 3, 4, 24, 90, 90, 266, 267, 24, 4, 268, 270, 94], [.int .i64, .int .i64, .int .i64, .int .i64, .int .i64, .int .i64, .int .i64, .int .i64, .int .i64, .int .i64, .int .i64, .bool, .sl 24, .sl 90, .sl 90, .sl 266, .sl 267, .sl 24, .bool, .int .i64, .int .i64, .int .i64, .int .i64, .int .i64, .int .i64, .int .i64, .int .i64, .int .i64, .sl 90, .sl 24, .int .i64, .int .i64, .int .i64, .bool, .sl 24, .sl 90, .sl 91, .sl 24, .sl 90, .sl 92], false⟩ := by kernel_rfl
theorem cx_at272 : PM.find cx 272 = some ⟨40, true, [.int .i64 0, .int .i64 0, .int .i64 0, .int .i64 0, .int .i64 0, .int .i64 0, .int .i64 0, .int .i64 0, .int .i64 0, .int .i64 0, .int .i64 0, .bool false, .arr (.emp (.ints 3 .i64)), .arr (.emp (.vecs 297 2)), .arr (.emp (.vecs 297 2)), .arr (.emp (.rows 395)), .arr (.emp (.vecs 401 3)), .arr (.emp (.ints 3 .i64)), .bool false, .int .i64 0, .int .i64 0, .int .i64 0, .int .i64 0, .int .i64 0, .int .i64 0, .int .i64 0, .int .i64 0, .int .i64 0, .arr (.emp (.vecs 297 2)), .arr (.emp (.ints 3 .i64)), .int .i64 0, .int .i64 0, .int .i64 0, .bool false, .arr (.emp (.ints 3 .i64)), .arr (.emp (.vecs 297 2)), .arr (.emp (.vecs 299 3)), .arr (.emp (.ints 3 .i64)), .arr (.emp (.vecs 297 2)), .arr (.emp (.rows 295))], none, 0, none, [0, 1, 2, 3, 4, 5, 6, 7, 8, 9, 10, 11, 12, 13, 14, 15, 16, 17, 18, 19, 23, 30], [1, 1, 1, 1, 1, 1, 1, 1, 1, 1, 1, 1, 1, 1, 1, 1, 1, 1, 1, 4, 7, 10], [3, 3, 3, 3, 3, 3, 3, 3, 3, 3, 3, 4, 24, 90, 90, 266, 267, 24, 4, 268, 270, 94], [.int .i64, .int .i64, .int .i64, .int .i64, .int .i64, .int .i64, .int .i64, .int .i64, .int .i64, .int .i64, .int .i64, .bool, .sl 24, .sl 90, .sl 90, .sl 266, .sl 267, .sl 24, .bool, .int .i64, .int .i64, .int .i64, .int .i64, .int .i64, .int .i64, .int .i64, .int .i64, .int .i64, .sl 90, .sl 24, .int .i64, .int .i64, .int .i64, .bool, .sl 24, .sl 90, .sl 91, .sl 24, .sl 90, .sl 92], false⟩ := by kernel_rfl
theorem cx_at274 : PM.find cx 274 = some ⟨3, true, [.int .i64 0, .int .i64 0, .int .i64 0], none, 0, none, [0, 1, 2], [1, 1, 1], [3, 3, 3], [.int .i64, .int .i64, .int .i64], true⟩ := by kernel_rfl
theorem cx_at275 : PM.find cx 275 = some ⟨3, true, [.int .i64 0, .int .i64 0, .int .i64 0], none, 0, none, [0, 1, 2], [1, 1, 1], [3, 3, 3], [.int .i64, .int .i64, .int .i64], true⟩ := by kernel_rfl
theorem cx_at277 : PM.find cx 277 = some ⟨3, true, [.int .i64 0, .int .i64 0, .int .i64 0], none, 0, none, [0, 1, 2], [1, 1, 1], [3, 3, 3], [.int .i64, .int .i64, .int .i64], true⟩ := by kernel_rfl
theorem cx_at284 : PM.find cx 284 = some ⟨18, true, [.int .i64 0, .int .i64 0, .int .i64 0, .int .i64 0, .int .i64 0, .arr (.emp (.vecs 297 2)), .bool false, .int .i64 0, .int .i64 0, .int .i64 0, .int .i64 0, .int .i64 0, .int .i64 0, .int .i64 0, .int .i64 0, .int .i64 0, .arr (.emp (.vecs 297 2)), .arr (.emp (.ints 3 .i64))], none, 0, none, [0, 1, 2, 3, 4, 5, 6, 7, 11], [1, 1, 1, 1, 1, 1, 1, 4, 7], [3, 3, 3, 3, 3, 90, 4, 268, 270], [.int .i64, .int .i64, .int .i64, .int .i64, .int .i64, .sl 90, .bool, .int .i64, .int .i64, .int .i64, .int .i64, .int .i64, .int .i64, .int .i64, .int .i64, .int .i64, .sl 90, .sl 24], false⟩ := by kernel_rfl
theorem cx_at285 : PM.find cx 285 = some ⟨18, true, [.int .i64 0, .int .i64 0, .int .i64 0, .int .i64 0, .int .i64 0, .arr (.emp (.vecs 297 2)), .bool false, .int .i64 0, .int .i64 0, .int .i64 0, .int .i64 0, .int .i64 0, .int .i64 0, .int .i64 0, .int .i64 0, .int .i64 0, .arr (.emp (.vecs 297 2)), .arr (.emp (.ints 3 .i64))], none, 0, none, [0, 1, 2, 3, 4, 5, 6, 7, 11], [1, 1, 1, 1, 1, 1, 1, 4, 7], [3, 3, 3, 3, 3, 90, 4, 268, 270], [.int .i64, .int .i64, .int .i64, .int .i64, .int .i64, .sl 90, .bool, .int .i64, .int .i64, .int .i64, .int .i64, .int .i64, .int .i64, .int .i64, .int .i64, .int .i64, .sl 90, .sl 24], false⟩ := by kernel_rfl
theorem cx_at286 : PM.find cx 286 = some ⟨3, true, [.int .i64 0, .int .i64 0, .int .i64 0], none, 0, none, [0, 1, 2], [1, 1, 1], [3, 3, 3], [.int .i64, .int .i64, .int .i64], true⟩ := by kernel_rfl
theorem cx_at287 : PM.find cx 287 = some ⟨3, true, [.int .i64 0, .int .i64 0, .int .i64 0], none, 0, none, [0, 1, 2], [1, 1, 1], [3, 3, 3], [.int .i64, .int .i64, .int .i64], true⟩ := by kernel_rfl
theorem cx_at293 : PM.find cx 293 = some ⟨1, false, [.arr (.emp (.rows 405))], some (.rows 405), 3, none, [], [], [], [.sl 293], false⟩ := by kernel_rfl
theorem cx_at294 : PM.find cx 294 = some ⟨15, true, [.int .i64 0, .int .i64 0, .int .i64 0, .int .i64 0, .int .i64 0, .int .i64 0, .arr (.emp (.ints 3 .i64)), .arr (.emp (.vecs 299 3)), .arr (.emp (.vecs 297 2)), .arr (.emp (.rows 405)), .bool false, .int .i64 0, .int .i64 0, .int .i64 0, .int .i64 0], none, 0, none, [0, 1, 2, 3, 4, 5, 6, 7, 8, 9, 10, 11], [1, 1, 1, 1, 1, 1, 1, 1, 1, 1, 1, 4], [3, 3, 3, 3, 3, 3, 24, 91, 90, 293, 4, 268], [.int .i64, .int .i64, .int .i64, .int .i64, .int .i64, .int .i64, .sl 24, .sl 91, .sl 90, .sl 293, .bool, .int .i64, .int .i64, .int .i64, .int .i64], false⟩ := by kernel_rfl
theorem cx_at295 : PM.find cx 295 = some ⟨15, true, [.int .i64 0, .int .i64 0, .int .i64 0, .int .i64 0, .int .i64 0, .int .i64 0, .arr (.emp (.ints 3 .i64)), .arr (.emp (.vecs 299 3)), .arr (.emp (.vecs 297 2)), .arr (.emp (.rows 405)), .bool false, .int .i64 0, .int .i64 0, .int .i64 0, .int .i64 0], none, 0, none, [0, 1, 2, 3, 4, 5, 6, 7, 8, 9, 10, 11], [1, 1, 1, 1, 1, 1, 1, 1, 1, 1, 1, 4], [3, 3, 3, 3, 3, 3, 24, 91, 90, 293, 4, 268], [.int .i64, .int .i64, .int .i64, .int .i64, .int .i64, .int .i64, .sl 24, .sl 91, .sl 90, .sl 293, .bool, .int .i64, .int .i64, .int .i64, .int .i64], false⟩ := by kernel_rfl
theorem cx_at297 : PM.find cx 297 = some ⟨2, true, [.int .i64 0, .int .i64 0], none, 0, none, [0, 1], [1, 1], [3, 3], [.int .i64, .int .i64], true⟩ := by kernel_rfl
theorem cx_at299 : PM.find cx 299 = some ⟨3, true, [.int .i64 0, .int .i64 0, .int .i64 0], none, 0, none, [0, 1, 2], [1, 1, 1], [3, 3, 3], [.int .i64, .int .i64, .int .i64], true⟩ := by kernel_rfl
theorem cx_at307 : PM.find cx 307 = some ⟨1, false, [.arr (.emp (.vecs 409 4))], some (.vecs 409 4), 4, none, [], [], [], [.sl 307], false⟩ := by kernel_rfl
theorem cx_at308 : PM.find cx 308 = some ⟨1, true, [.arr (.emp (.vecs 409 4))], none, 0, none, [0], [1], [307], [.sl 307], false⟩ := by kernel_rfl
theorem cx_at309 : PM.find cx 309 = some ⟨1, true, [.arr (.emp (.vecs 409 4))], none, 0, none, [0], [1], [307], [.sl 307], false⟩ := by kernel_rfl
theorem cx_at311 : PM.find cx 311 = some ⟨4, true, [.int .i64 0, .int .i64 0, .int .i64 0, .int .i64 0], none, 0, none, [0, 1, 2, 3], [1, 1, 1, 1], [3, 3, 3, 3], [.int .i64, .int .i64, .int .i64, .int .i64], true⟩ := by kernel_rfl
theorem cx_at312 : PM.find cx 312 = some ⟨4, true, [.int .i64 0, .int .i64 0, .int .i64 0, .int .i64 0], none, 0, none, [0, 1, 2, 3], [1, 1, 1, 1], [3, 3, 3, 3], [.int .i64, .int .i64, .int .i64, .int .i64], true⟩ := by kernel_rfl
theorem cx_at316 : PM.find cx 316 = some ⟨2, true, [.arr (.emp (.vecs 409 4)), .arr (.emp (.rows 309))], none, 0, none, [0, 1], [1, 1], [307, 112], [.sl 307, .sl 112], false⟩ := by kernel_rfl
theorem cx_at317 : PM.find cx 317 = some ⟨2, true, [.arr (.emp (.vecs 409 4)), .arr (.emp (.rows 309))], none, 0, none, [0, 1], [1, 1], [307, 112], [.sl 307, .sl 112], false⟩ := by kernel_rfl
theorem cx_at319 : PM.find cx 319 = some ⟨3, true, [.int .i64 0, .int .i64 0, .int .i64 0], none, 0, none, [0, 1, 2], [1, 1, 1], [3, 3, 3], [.int .i64, .int .i64, .int .i64], true⟩ := by kernel_rfl
theorem cx_at320 : PM.find cx 320 = some ⟨3, true, [.int .i64 0, .int .i64 0, .int .i64 0], none, 0, none, [0, 1, 2], [1, 1, 1], [3, 3, 3], [.int .i64, .int .i64, .int .i64], true⟩ := by kernel_rfl
theorem cx_at322 : PM.find cx 322 = some ⟨3, true, [.int .i64 0, .int .i64 0, .int .i64 0], none, 0, none, [0, 1, 2], [1, 1, 1], [3, 3, 3], [.int .i64, .int .i64, .int .i64], true⟩ := by kernel_rfl
theorem cx_at326 : PM.find cx 326 = some ⟨1, false, [.arr (.emp (.bools 4))], some (.bools 4), 1, none, [], [], [], [.sl 326], false⟩ := by kernel_rfl
theorem cx_at327 : PM.find cx 327 = some ⟨5, true, [.int .i64 0, .arr (.emp (.ints 3 .i64)), .arr (.emp (.ints 3 .i64)), .arr (.emp (.ints 3 .i64)), .int .i64 0], none, 0, none, [0, 1, 2], [1, 1, 3], [3, 24, 135], [.int .i64, .sl 24, .sl 24, .sl 24, .int .i64], false⟩ := by kernel_rfl
theorem cx_at328 : PM.find cx 328 = some ⟨5, true, [.int .i64 0, .arr (.emp (.ints 3 .i64)), .arr (.emp (.ints 3 .i64)), .arr (.emp (.ints 3 .i64)), .int .i64 0], none, 0, none, [0, 1, 2], [1, 1, 3], [3, 24, 135], [.int .i64, .sl 24, .sl 24, .sl 24, .int .i64], false⟩ := by kernel_rfl
theorem cx_at334 : PM.find cx 334 = some ⟨1, false, [.int .i64 0], none, 0, none, [], [], [], [.int .i64], false⟩ := by kernel_rfl
theorem cx_at341 : PM.find cx 341 = some ⟨1, false, [.int .u32 0], none, 0, none, [], [], [], [.int .u32], false⟩ := by kernel_rfl
theorem cx_at343 : PM.find cx 343 = some ⟨1, false, [.int .u64 0], none, 0, none, [], [], [], [.int .u64], false⟩ := by kernel_rfl
theorem cx_at354 : PM.find cx 354 = some ⟨3, true, [.int .i64 0, .int .i64 0, .int .i64 0], none, 0, none, [0, 1, 2], [1, 1, 1], [3, 3, 3], [.int .i64, .int .i64, .int .i64], true⟩ := by kernel_rfl
theorem cx_at367 : PM.find cx 367 = some ⟨3, true, [.int .i64 0, .int .i64 0, .arr (.emp (.ints 3 .i64))], none, 0, none, [0, 1, 2], [1, 1, 1], [3, 3, 24], [.int .i64, .int .i64, .sl 24], false⟩ := by kernel_rfl
theorem cx_at368 : PM.find cx 368 = some ⟨3, true, [.int .i64 0, .int .i64 0, .arr (.emp (.ints 3 .i64))], none, 0, none, [0, 1, 2], [1, 1, 1], [3, 3, 24], [.int .i64, .int .i64, .sl 24], false⟩ := by kernel_rfl
theorem cx_at376 : PM.find cx 376 = some ⟨1, false, [.arr (.emp (.rows 378))], some (.rows 378), 5, none, [], [], [], [.sl 376], false⟩ := by kernel_rfl
theorem cx_at377 : PM.find cx 377 = some ⟨5, true, [.int .i64 0, .arr (.emp (.ints 3 .i64)), .arr (.emp (.ints 3 .i64)), .arr (.emp (.ints 3 .i64)), .int .i64 0], none, 0, none, [0, 1, 2], [1, 1, 3], [3, 24, 135], [.int .i64, .sl 24, .sl 24, .sl 24, .int .i64], false⟩ := by kernel_rfl
theorem cx_at378 : PM.find cx 378 = some ⟨5, true, [.int .i64 0, .arr (.emp (.ints 3 .i64)), .arr (.emp (.ints 3 .i64)), .arr (.emp (.ints 3 .i64)), .int .i64 0], none, 0, none, [0, 1, 2], [1, 1, 3], [3, 24, 135], [.int .i64, .sl 24, .sl 24, .sl 24, .int .i64], false⟩ := by kernel_rfl
theorem cx_at380 : PM.find cx 380 = some ⟨1, false, [.arr (.emp (.rows 382))], some (.rows 382), 5, none, [], [], [], [.sl 380], false⟩ := by kernel_rfl
theorem cx_at381 : PM.find cx 381 = some ⟨5, true, [.int .i64 0, .arr (.emp (.ints 3 .i64)), .arr (.emp (.ints 3 .i64)), .arr (.emp (.ints 3 .i64)), .int .i64 0], none, 0, none, [0, 1, 2], [1, 1, 3], [3, 24, 135], [.int .i64, .sl 24, .sl 24, .sl 24, .int .i64], false⟩ := by kernel_rfl
theorem cx_at382 : PM.find cx 382 = some ⟨5, true, [.int .i64 0, .arr (.emp (.ints 3 .i64)), .arr (.emp (.ints 3 .i64)), .arr (.emp (.ints 3 .i64)), .int .i64 0], none, 0, none, [0, 1, 2], [1, 1, 3], [3, 24, 135], [.int .i64, .sl 24, .sl 24, .sl 24, .int .i64], false⟩ := by kernel_rfl
theorem cx_at385 : PM.find cx 385 = some ⟨1, false, [.int .u64 0], none, 0, none, [], [], [], [.int .u64], false⟩ := by kernel_rfl
theorem cx_at394 : PM.find cx 394 = some ⟨5, true, [.int .i64 0, .int .i64 0, .int .i64 0, .int .i64 0, .arr (.emp (.ints 3 .i64))], none, 0, none, [0, 1, 2, 3, 4], [1, 1, 1, 1, 1], [3, 3, 3, 3, 24], [.int .i64, .int .i64, .int .i64, .int .i64, .sl 24], false⟩ := by kernel_rfl
theorem cx_at395 : PM.find cx 395 = some ⟨5, true, [.int .i64 0, .int .i64 0, .int .i64 0, .int .i64 0, .arr (.emp (.ints 3 .i64))], none, 0, none, [0, 1, 2, 3, 4], [1, 1, 1, 1, 1], [3, 3, 3, 3, 24], [.int .i64, .int .i64, .int .i64, .int .i64, .sl 24], false⟩ := by kernel_rfl
theorem cx_at396 : PM.find cx 396 = some ⟨5, true, [.int .i64 0, .int .i64 0, .int .i64 0, .int .i64 0, .arr (.emp (.ints 3 .i64))], none, 0, none, [0, 1, 2, 3, 4], [1, 1, 1, 1, 1], [3, 3, 3, 3, 24], [.int .i64, .int .i64, .int .i64, .int .i64, .sl 24], false⟩ := by kernel_rfl
theorem cx_at398 : PM.find cx 398 = some ⟨3, true, [.int .i64 0, .int .i64 0, .int .i64 0], none, 0, none, [0, 1, 2], [1, 1, 1], [3, 3, 3], [.int .i64, .int .i64, .int .i64], true⟩ := by kernel_rfl
theorem cx_at399 : PM.find cx 399 = some ⟨3, true, [.int .i64 0, .int .i64 0, .int .i64 0], none, 0, none, [0, 1, 2], [1, 1, 1], [3, 3, 3], [.int .i64, .int .i64, .int .i64], true⟩ := by kernel_rfl
theorem cx_at401 : PM.find cx 401 = some ⟨3, true, [.int .i64 0, .int .i64 0, .int .i64 0], none, 0, none, [0, 1, 2], [1, 1, 1], [3, 3, 3], [.int .i64, .int .i64, .int .i64], true⟩ := by kernel_rfl
theorem cx_at405 : PM.find cx 405 = some ⟨3, true, [.int .i64 0, .int .i64 0, .arr (.emp (.ints 3 .i64))], none, 0, none, [0, 1, 2], [1, 1, 1], [3, 3, 24], [.int .i64, .int .i64, .sl 24], false⟩ := by kernel_rfl
theorem cx_at409 : PM.find cx 409 = some ⟨4, true, [.int .i64 0, .int .i64 0, .int .i64 0, .int .i64 0], none, 0, none, [0, 1, 2, 3], [1, 1, 1, 1], [3, 3, 3, 3], [.int .i64, .int .i64, .int .i64, .int .i64], true⟩ := by kernel_rfl
theorem cx_at423 : PM.find cx 423 = some ⟨1, false, [.int .u8 0], none, 0, none, [], [], [], [.int .u8], false⟩ := by kernel_rfl
theorem cx_at424 : PM.find cx 424 = some ⟨1, false, [.int .u8 0], none, 0, none, [], [], [], [.int .u8], false⟩ := by kernel_rfl
theorem cx_at427 : PM.find cx 427 = some ⟨1, false, [.int .i32 0], none, 0, none, [], [], [], [.int .i32], false⟩ := by kernel_rfl
theorem cx_at428 : PM.find cx 428 = some ⟨1, false, [.int .i32 0], none, 0, none, [], [], [], [.int .i32], false⟩ := by kernel_rfl

abbrev laws_szIntS_T := (List Int) → (Int) → ((Int) → PM.R) → PM.R
noncomputable def laws_szIntS_w (c : laws_szIntS_T) (ds : List PM.V) (k : PM.V → PM.R) : PM.R :=
  match ds with
  | [.arr (.ints 3 .i64 a), .int .i64 left] => c a left (fun r0 => k (.int .i64 r0))
  | _ => none
noncomputable def laws_szIntS_f (A : PM.Prims) (a : List Int) (left : Int) (k : (Int) → PM.R) : PM.R :=
  bif (A.lt (A.sub .i64 left (A.ilen a)) 0) then
    k (-1)
  else
    k (A.sub .i64 left (A.ilen a))
noncomputable def laws_szIntS (A : PM.Prims) : laws_szIntS_T := laws_szIntS_f A
noncomputable def laws_szIntS_L (A : PM.Prims) (n : Nat) : PM.Lam := fun cur σ K =>
  match cur, σ, K with
  | _, _, _ => none
noncomputable def laws_szIntS_E (A : PM.Prims) : PM.Env := ⟨[], [], [], [(0, [0, 1]), (1, [1]), (2, [1, 10]), (3, [4]), (4, [4])], laws_szIntS_L A A.fuel⟩
theorem laws_szIntS_ok (A : PM.Prims) (a : List Int) (left : Int) (k : PM.V → PM.R) : PM.pfun A cx [] (laws_szIntS_E A) Go.Proofs.Try.f146 [.arr (.ints 3 .i64 a), .int .i64 left] k = laws_szIntS_f A a left (fun r0 => k (.int .i64 r0)) := by kernel_rfl

theorem laws_szIntS_fn : PM.FnIs Try.prog 146 Try.f146 := .of Try.func146 (by kernel_rfl) (by kernel_rfl)
theorem laws_szIntS_g : PM.GOk Try.prog cx 146 ⟨[], laws_szIntS_w (laws_szIntS PM.std), none⟩ := by
  refine ⟨laws_szIntS_fn.enter, fun _ ds k r h => ?_, fun hm => absurd rfl hm, fun _ e => (by cases e)⟩
  change laws_szIntS_w (laws_szIntS PM.std) ds k = some r at h
  unfold laws_szIntS_w at h
  split at h
  · exact PM.pfun_ok (E := laws_szIntS_E PM.std) (L := fun n => laws_szIntS_L PM.std n) (N := PM.std.fuel) cx_ok .nil mixed .nil laws_szIntS_fn (by kernel_rfl) ⟨rfl, fun _ _ _ => rfl, fun n cur σ K r h => by cases h⟩
      ((laws_szIntS_ok PM.std _ _ k).trans h)
  · cases h

abbrev laws_szRowS_T := (List (List Int)) → (Int) → ((Int) → PM.R) → PM.R
noncomputable def laws_szRowS_w (c : laws_szRowS_T) (ds : List PM.V) (k : PM.V → PM.R) : PM.R :=
  match ds with
  | [.arr (.vecs 297 2 a), .int .i64 left] => c a left (fun r0 => k (.int .i64 r0))
  | _ => none
noncomputable def laws_szRowS_f (A : PM.Prims) (a : List (List Int)) (left : Int) (k : (Int) → PM.R) : PM.R :=
  bif (A.lt (A.sub .i64 left (A.vlen a)) 0) then
    k (-1)
  else
    k (A.sub .i64 left (A.vlen a))
noncomputable def laws_szRowS (A : PM.Prims) : laws_szRowS_T := laws_szRowS_f A
noncomputable def laws_szRowS_L (A : PM.Prims) (n : Nat) : PM.Lam := fun cur σ K =>
  match cur, σ, K with
  | _, _, _ => none
noncomputable def laws_szRowS_E (A : PM.Prims) : PM.Env := ⟨[], [], [], [(0, [0, 1]), (1, [1]), (2, [1, 10]), (3, [4]), (4, [4])], laws_szRowS_L A A.fuel⟩
theorem laws_szRowS_ok (A : PM.Prims) (a : List (List Int)) (left : Int) (k : PM.V → PM.R) : PM.pfun A cx [] (laws_szRowS_E A) Go.Proofs.Try.f147 [.arr (.vecs 297 2 a), .int .i64 left] k = laws_szRowS_f A a left (fun r0 => k (.int .i64 r0)) := by kernel_rfl

theorem laws_szRowS_fn : PM.FnIs Try.prog 147 Try.f147 := .of Try.func147 (by kernel_rfl) (by kernel_rfl)
theorem laws_szRowS_g : PM.GOk Try.prog cx 147 ⟨[], laws_szRowS_w (laws_szRowS PM.std), none⟩ := by
  refine ⟨laws_szRowS_fn.enter, fun _ ds k r h => ?_, fun hm => absurd rfl hm, fun _ e => (by cases e)⟩
  change laws_szRowS_w (laws_szRowS PM.std) ds k = some r at h
  unfold laws_szRowS_w at h
  split at h
  · exact PM.pfun_ok (E := laws_szRowS_E PM.std) (L := fun n => laws_szRowS_L PM.std n) (N := PM.std.fuel) cx_ok .nil mixed .nil laws_szRowS_fn (by kernel_rfl) ⟨rfl, fun _ _ _ => rfl, fun n cur σ K r h => by cases h⟩
      ((laws_szRowS_ok PM.std _ _ k).trans h)
  · cases h

abbrev laws_toIntS_T := (List Int) → ((List Int) → PM.R) → PM.R
noncomputable def laws_toIntS_w (c : laws_toIntS_T) (ds : List PM.V) (k : PM.V → PM.R) : PM.R :=
  match ds with
  | [.arr (.ints 3 .i64 a)] => c a (fun r0 => k (.arr (.ints 3 .i64 r0)))
  | _ => none
noncomputable def laws_toIntS_l0 (A : PM.Prims) : Nat → (List Int) → (Int) → (List Int) → ((List Int) → PM.R) → PM.R
  | 0, _, _, _, _ => none
  | n + 1, a1, i2, o03, kx0_0 =>
    bif (A.lt i2 (A.ilen a1)) then
      bif (A.inb i2 (A.ilen a1)) then
        bif (A.inb i2 (A.ilen o03)) then
          laws_toIntS_l0 A n a1 (A.add .i64 i2 1) (A.iset o03 i2 (A.iget a1 i2)) kx0_0
        else
          none
      else
        none
    else
      kx0_0 o03
noncomputable def laws_toIntS_f (A : PM.Prims) (a : List Int) (k : (List Int) → PM.R) : PM.R :=
  bif (A.mkOk (A.ilen a)) then
    bif (A.le (A.ilen a) (A.ilen a)) then
      bif (A.mkOk (A.ilen a)) then
        laws_toIntS_l0 A A.fuel a 0 (A.izero (A.ilen a)) (fun o045 =>
          k o045)
      else
        none
    else
      none
  else
    none
noncomputable def laws_toIntS (A : PM.Prims) : laws_toIntS_T := laws_toIntS_f A
noncomputable def laws_toIntS_L (A : PM.Prims) (n : Nat) : PM.Lam := fun cur σ K =>
  match cur, σ, K with
  | 0, ⟨[(0, .arr (.ints 3 .i64 a1)), (3, .sref 0), (4, .int .i64 i2)], [(0, .arr true (.ints 3 .i64 o03))]⟩, K => laws_toIntS_l0 A n a1 i2 o03 (fun o04 => K (.exit 0) ⟨[(3, .sref 0)], [(0, .arr true (.ints 3 .i64 o04))]⟩)
  | _, _, _ => none
noncomputable def laws_toIntS_E (A : PM.Prims) : PM.Env := ⟨[], [], [(0, [0, 3, 4], [2, 3])], [(0, [0]), (1, [0, 3]), (2, [0, 3, 4]), (3, [0, 3, 4, 11]), (4, [0, 3, 4]), (5, [0, 3, 4]), (6, [2])], laws_toIntS_L A A.fuel⟩
theorem laws_toIntS_l0_ok (A : PM.Prims) (n : Nat) (a1 : List Int) (i2 : Int) (o03 : List Int) (K : Go.Exit → PM.S → PM.R) : laws_toIntS_L A (n + 1) 0 ⟨[(0, .arr (.ints 3 .i64 a1)), (3, .sref 0), (4, .int .i64 i2)], [(0, .arr true (.ints 3 .i64 o03))]⟩ K = PM.roundF A cx (PM.runD A cx (laws_toIntS_E A).inl (laws_toIntS_E A).Γ 3) (laws_toIntS_E A) (laws_toIntS_L A n) 0 Go.Proofs.Try.f37 ⟨[(0, .arr (.ints 3 .i64 a1)), (3, .sref 0), (4, .int .i64 i2)], [(0, .arr true (.ints 3 .i64 o03))]⟩ K := by kernel_rfl
theorem laws_toIntS_ok (A : PM.Prims) (a : List Int) (k : PM.V → PM.R) : PM.pfun A cx [] (laws_toIntS_E A) Go.Proofs.Try.f37 [.arr (.ints 3 .i64 a)] k = laws_toIntS_f A a (fun r0 => k (.arr (.ints 3 .i64 r0))) := by kernel_rfl

theorem laws_toIntS_fn : PM.FnIs Try.prog 37 Try.f37 := .of Try.func37 (by kernel_rfl) (by kernel_rfl)
theorem laws_toIntS_g : PM.GOk Try.prog cx 37 ⟨[], laws_toIntS_w (laws_toIntS PM.std), none⟩ := by
  refine ⟨laws_toIntS_fn.enter, fun _ ds k r h => ?_, fun hm => absurd rfl hm, fun _ e => (by cases e)⟩
  change laws_toIntS_w (laws_toIntS PM.std) ds k = some r at h
  unfold laws_toIntS_w at h
  split at h
  · exact PM.pfun_ok (E := laws_toIntS_E PM.std) (L := fun n => laws_toIntS_L PM.std n) (N := PM.std.fuel) cx_ok .nil mixed .nil laws_toIntS_fn (by kernel_rfl) ⟨rfl, fun cur σ K => by
      dsimp only [laws_toIntS_L]
      split <;> rfl, fun n cur σ K r h => by
      dsimp only [laws_toIntS_L] at h
      split at h
      · exact (laws_toIntS_l0_ok PM.std n _ _ _ K).symm.trans h
      · cases h⟩
      ((laws_toIntS_ok PM.std _ k).trans h)
  · cases h

abbrev laws_toRow_T := (Int) → (Int) → ((Int) → (Int) → PM.R) → PM.R
noncomputable def laws_toRow_w (c : laws_toRow_T) (ds : List PM.V) (k : PM.V → PM.R) : PM.R :=
  match ds with
  | [.agg [.int .i64 a_Cell, .int .i64 a_Val]] => c a_Cell a_Val (fun r0_Cell r0_Val => k (.agg [.int .i64 r0_Cell, .int .i64 r0_Val]))
  | _ => none
noncomputable def laws_toRow_f (A : PM.Prims) (a_Cell : Int) (a_Val : Int) (k : (Int) → (Int) → PM.R) : PM.R :=
  k a_Cell a_Val
noncomputable def laws_toRow (A : PM.Prims) : laws_toRow_T := laws_toRow_f A
noncomputable def laws_toRow_L (A : PM.Prims) (n : Nat) : PM.Lam := fun cur σ K =>
  match cur, σ, K with
  | _, _, _ => none
noncomputable def laws_toRow_E (A : PM.Prims) : PM.Env := ⟨[], [], [], [(0, [1, 2]), (1, [1, 2, 3]), (2, [1, 2, 3]), (3, [2, 3]), (4, [2])], laws_toRow_L A A.fuel⟩
theorem laws_toRow_ok (A : PM.Prims) (a_Cell : Int) (a_Val : Int) (k : PM.V → PM.R) : PM.pfun A cx [] (laws_toRow_E A) Go.Proofs.Try.f214 [.agg [.int .i64 a_Cell, .int .i64 a_Val]] k = laws_toRow_f A a_Cell a_Val (fun r0_Cell r0_Val => k (.agg [.int .i64 r0_Cell, .int .i64 r0_Val])) := by kernel_rfl

theorem laws_toRow_fn : PM.FnIs Try.prog 214 Try.f214 := .of Try.func214 (by kernel_rfl) (by kernel_rfl)
theorem laws_toRow_g : PM.GOk Try.prog cx 214 ⟨[], laws_toRow_w (laws_toRow PM.std), none⟩ := by
  refine ⟨laws_toRow_fn.enter, fun _ ds k r h => ?_, fun hm => absurd rfl hm, fun _ e => (by cases e)⟩
  change laws_toRow_w (laws_toRow PM.std) ds k = some r at h
  unfold laws_toRow_w at h
  split at h
  · exact PM.pfun_ok (E := laws_toRow_E PM.std) (L := fun n => laws_toRow_L PM.std n) (N := PM.std.fuel) cx_ok .nil mixed .nil laws_toRow_fn (by kernel_rfl) ⟨rfl, fun _ _ _ => rfl, fun n cur σ K r h => by cases h⟩
      ((laws_toRow_ok PM.std _ _ k).trans h)
  · cases h

abbrev laws_toRowS_T := (List (List Int)) → ((List (List Int)) → PM.R) → PM.R
noncomputable def laws_toRowS_w (c : laws_toRowS_T) (ds : List PM.V) (k : PM.V → PM.R) : PM.R :=
  match ds with
  | [.arr (.vecs 297 2 a)] => c a (fun r0 => k (.arr (.vecs 161 2 r0)))
  | _ => none
noncomputable def laws_toRowS_l0 (A : PM.Prims) (c_214 : laws_toRow_T) : Nat → (List (List Int)) → (Int) → (List (List Int)) → ((List (List Int)) → PM.R) → PM.R
  | 0, _, _, _, _ => none
  | n + 1, a1, i2, o03, kx0_0 =>
    bif (A.lt i2 (A.vlen a1)) then
      bif (A.inb i2 (A.vlen a1)) then
        c_214 (A.vget a1 i2 0) (A.vget a1 i2 1) (fun r4 r5 =>
          bif (A.inb i2 (A.vlen o03)) then
            laws_toRowS_l0 A c_214 n a1 (A.add .i64 i2 1) (A.vput o03 i2 [r4, r5]) kx0_0
          else
            none)
      else
        none
    else
      kx0_0 o03
noncomputable def laws_toRowS_f (A : PM.Prims) (c_214 : laws_toRow_T) (a : List (List Int)) (k : (List (List Int)) → PM.R) : PM.R :=
  bif (A.mkOk (A.vlen a)) then
    bif (A.le (A.vlen a) (A.vlen a)) then
      bif (A.mkOk (A.vlen a)) then
        laws_toRowS_l0 A c_214 A.fuel a 0 (A.vzero 2 (A.vlen a)) (fun o067 =>
          k o067)
      else
        none
    else
      none
  else
    none
noncomputable def laws_toRowS (A : PM.Prims) : laws_toRowS_T := laws_toRowS_f A (laws_toRow A)
noncomputable def laws_toRowS_L (A : PM.Prims) (c_214 : laws_toRow_T) (n : Nat) : PM.Lam := fun cur σ K =>
  match cur, σ, K with
  | 0, ⟨[(0, .arr (.vecs 297 2 a1)), (3, .sref 0), (4, .int .i64 i2)], [(0, .arr true (.vecs 161 2 o03))]⟩, K => laws_toRowS_l0 A c_214 n a1 i2 o03 (fun o06 => K (.exit 0) ⟨[(3, .sref 0)], [(0, .arr true (.vecs 161 2 o06))]⟩)
  | _, _, _ => none
noncomputable def laws_toRowS_E (A : PM.Prims) (c_214 : laws_toRow_T) : PM.Env := ⟨[(214, ⟨[], laws_toRow_w c_214, none⟩)], [], [(0, [0, 3, 4], [2, 3])], [(0, [0]), (1, [0, 3]), (2, [0, 3, 4]), (3, [0, 3, 4, 11]), (4, [0, 3, 4]), (5, [0, 3, 4]), (6, [2])], laws_toRowS_L A c_214 A.fuel⟩
theorem laws_toRowS_l0_ok (A : PM.Prims) (c_214 : laws_toRow_T) (n : Nat) (a1 : List (List Int)) (i2 : Int) (o03 : List (List Int)) (K : Go.Exit → PM.S → PM.R) : laws_toRowS_L A c_214 (n + 1) 0 ⟨[(0, .arr (.vecs 297 2 a1)), (3, .sref 0), (4, .int .i64 i2)], [(0, .arr true (.vecs 161 2 o03))]⟩ K = PM.roundF A cx (PM.runD A cx (laws_toRowS_E A c_214).inl (laws_toRowS_E A c_214).Γ 3) (laws_toRowS_E A c_214) (laws_toRowS_L A c_214 n) 0 Go.Proofs.Try.f150 ⟨[(0, .arr (.vecs 297 2 a1)), (3, .sref 0), (4, .int .i64 i2)], [(0, .arr true (.vecs 161 2 o03))]⟩ K := by kernel_rfl
theorem laws_toRowS_ok (A : PM.Prims) (c_214 : laws_toRow_T) (a : List (List Int)) (k : PM.V → PM.R) : PM.pfun A cx [] (laws_toRowS_E A c_214) Go.Proofs.Try.f150 [.arr (.vecs 297 2 a)] k = laws_toRowS_f A c_214 a (fun r0 => k (.arr (.vecs 161 2 r0))) := by kernel_rfl

theorem laws_toRowS_fn : PM.FnIs Try.prog 150 Try.f150 := .of Try.func150 (by kernel_rfl) (by kernel_rfl)
theorem laws_toRowS_g : PM.GOk Try.prog cx 150 ⟨[], laws_toRowS_w (laws_toRowS PM.std), none⟩ := by
  refine ⟨laws_toRowS_fn.enter, fun _ ds k r h => ?_, fun hm => absurd rfl hm, fun _ e => (by cases e)⟩
  change laws_toRowS_w (laws_toRowS PM.std) ds k = some r at h
  unfold laws_toRowS_w at h
  split at h
  · exact PM.pfun_ok (E := laws_toRowS_E PM.std (laws_toRow PM.std)) (L := fun n => laws_toRowS_L PM.std (laws_toRow PM.std) n) (N := PM.std.fuel) cx_ok (.cons laws_toRow_g .nil) mixed .nil laws_toRowS_fn (by kernel_rfl) ⟨rfl, fun cur σ K => by
      dsimp only [laws_toRowS_L]
      split <;> rfl, fun n cur σ K r h => by
      dsimp only [laws_toRowS_L] at h
      split at h
      · exact (laws_toRowS_l0_ok PM.std (laws_toRow PM.std) n _ _ _ K).symm.trans h
      · cases h⟩
      ((laws_toRowS_ok PM.std (laws_toRow PM.std) _ k).trans h)
  · cases h

abbrev spec_l1In_T := (Int) → (Int) → (Int) → ((Bool) → PM.R) → PM.R
noncomputable def spec_l1In_w (c : spec_l1In_T) (ds : List PM.V) (k : PM.V → PM.R) : PM.R :=
  match ds with
  | [.int .i64 x, .int .i64 low, .int .i64 high] => c x low high (fun r0 => k (.bool r0))
  | _ => none
noncomputable def spec_l1In_f (A : PM.Prims) (x : Int) (low : Int) (high : Int) (k : (Bool) → PM.R) : PM.R :=
  bif (A.le low x) then
    k (A.le x high)
  else
    k false
noncomputable def spec_l1In (A : PM.Prims) : spec_l1In_T := spec_l1In_f A
noncomputable def spec_l1In_L (A : PM.Prims) (n : Nat) : PM.Lam := fun cur σ K =>
  match cur, σ, K with
  | _, _, _ => none
noncomputable def spec_l1In_E (A : PM.Prims) : PM.Env := ⟨[], [], [], [(0, [0, 1, 2]), (1, [6])], spec_l1In_L A A.fuel⟩
theorem spec_l1In_ok (A : PM.Prims) (x : Int) (low : Int) (high : Int) (k : PM.V → PM.R) : PM.pfun A cx [] (spec_l1In_E A) Go.Proofs.Try.f103 [.int .i64 x, .int .i64 low, .int .i64 high] k = spec_l1In_f A x low high (fun r0 => k (.bool r0)) := by kernel_rfl

theorem spec_l1In_fn : PM.FnIs Try.prog 103 Try.f103 := .of Try.func103 (by kernel_rfl) (by kernel_rfl)
theorem spec_l1In_g : PM.GOk Try.prog cx 103 ⟨[], spec_l1In_w (spec_l1In PM.std), none⟩ := by
  refine ⟨spec_l1In_fn.enter, fun _ ds k r h => ?_, fun hm => absurd rfl hm, fun _ e => (by cases e)⟩
  change spec_l1In_w (spec_l1In PM.std) ds k = some r at h
  unfold spec_l1In_w at h
  split at h
  · exact PM.pfun_ok (E := spec_l1In_E PM.std) (L := fun n => spec_l1In_L PM.std n) (N := PM.std.fuel) cx_ok .nil mixed .nil spec_l1In_fn (by kernel_rfl) ⟨rfl, fun _ _ _ => rfl, fun n cur σ K r h => by cases h⟩
      ((spec_l1In_ok PM.std _ _ _ k).trans h)
  · cases h

abbrev spec_l3Val_T := (Int) → ((Bool) → PM.R) → PM.R
noncomputable def spec_l3Val_w (c : spec_l3Val_T) (ds : List PM.V) (k : PM.V → PM.R) : PM.R :=
  match ds with
  | [.int .i64 v] => c v (fun r0 => k (.bool r0))
  | _ => none
noncomputable def spec_l3Val_f (A : PM.Prims) (c_103 : spec_l1In_T) (v : Int) (k : (Bool) → PM.R) : PM.R :=
  c_103 v 0 65535 (fun r1 =>
    k r1)
noncomputable def spec_l3Val (A : PM.Prims) : spec_l3Val_T := spec_l3Val_f A (spec_l1In A)
noncomputable def spec_l3Val_L (A : PM.Prims) (c_103 : spec_l1In_T) (n : Nat) : PM.Lam := fun cur σ K =>
  match cur, σ, K with
  | _, _, _ => none
noncomputable def spec_l3Val_E (A : PM.Prims) (c_103 : spec_l1In_T) : PM.Env := ⟨[(103, ⟨[], spec_l1In_w c_103, none⟩)], [], [], [(0, [0]), (1, [2])], spec_l3Val_L A c_103 A.fuel⟩
theorem spec_l3Val_ok (A : PM.Prims) (c_103 : spec_l1In_T) (v : Int) (k : PM.V → PM.R) : PM.pfun A cx [] (spec_l3Val_E A c_103) Go.Proofs.Try.f197 [.int .i64 v] k = spec_l3Val_f A c_103 v (fun r0 => k (.bool r0)) := by kernel_rfl

theorem spec_l3Val_fn : PM.FnIs Try.prog 197 Try.f197 := .of Try.func197 (by kernel_rfl) (by kernel_rfl)
theorem spec_l3Val_g : PM.GOk Try.prog cx 197 ⟨[], spec_l3Val_w (spec_l3Val PM.std), none⟩ := by
  refine ⟨spec_l3Val_fn.enter, fun _ ds k r h => ?_, fun hm => absurd rfl hm, fun _ e => (by cases e)⟩
  change spec_l3Val_w (spec_l3Val PM.std) ds k = some r at h
  unfold spec_l3Val_w at h
  split at h
  · exact PM.pfun_ok (E := spec_l3Val_E PM.std (spec_l1In PM.std)) (L := fun n => spec_l3Val_L PM.std (spec_l1In PM.std) n) (N := PM.std.fuel) cx_ok (.cons spec_l1In_g .nil) mixed .nil spec_l3Val_fn (by kernel_rfl) ⟨rfl, fun _ _ _ => rfl, fun n cur σ K r h => by cases h⟩
      ((spec_l3Val_ok PM.std (spec_l1In PM.std) _ k).trans h)
  · cases h

abbrev spec_l3Vals_T := (List Int) → ((Bool) → PM.R) → PM.R
noncomputable def spec_l3Vals_w (c : spec_l3Vals_T) (ds : List PM.V) (k : PM.V → PM.R) : PM.R :=
  match ds with
  | [.arr (.ints 3 .i64 l)] => c l (fun r0 => k (.bool r0))
  | _ => none
noncomputable def spec_l3Vals_l0 (A : PM.Prims) (c_197 : spec_l3Val_T) : Nat → (List Int) → (Int) → ((Bool) → PM.R) → (Unit → PM.R) → PM.R
  | 0, _, _, _, _ => none
  | n + 1, l1, i2, kret_0, kx0_0 =>
    bif (A.lt i2 (A.ilen l1)) then
      bif (A.inb i2 (A.ilen l1)) then
        c_197 (A.iget l1 i2) (fun r3 =>
          bif (A.not r3) then
            kret_0 false
          else
            spec_l3Vals_l0 A c_197 n l1 (A.add .i64 i2 1) kret_0 kx0_0)
      else
        none
    else
      kx0_0 ()
noncomputable def spec_l3Vals_f (A : PM.Prims) (c_197 : spec_l3Val_T) (l : List Int) (k : (Bool) → PM.R) : PM.R :=
  bif (A.not (A.eq (A.ilen l) 8)) then
    k false
  else
    spec_l3Vals_l0 A c_197 A.fuel l 0 (fun t245 =>
      k t245) (fun _ =>
      k true)
noncomputable def spec_l3Vals (A : PM.Prims) : spec_l3Vals_T := spec_l3Vals_f A (spec_l3Val A)
noncomputable def spec_l3Vals_L (A : PM.Prims) (c_197 : spec_l3Val_T) (n : Nat) : PM.Lam := fun cur σ K =>
  match cur, σ, K with
  | 0, ⟨[(0, .arr (.ints 3 .i64 l1)), (3, .int .i64 i2)], []⟩, K => spec_l3Vals_l0 A c_197 n l1 i2 (fun t24 => K .ret ⟨[(2, .bool t24)], []⟩) (fun _ => K (.exit 0) ⟨[], []⟩)
  | _, _, _ => none
noncomputable def spec_l3Vals_E (A : PM.Prims) (c_197 : spec_l3Val_T) : PM.Env := ⟨[(197, ⟨[], spec_l3Val_w c_197, none⟩)], [], [(0, [0, 3], [2])], [(0, [0]), (1, [0, 6]), (2, [2]), (3, [0, 3]), (4, [0, 3, 10]), (5, [0, 3]), (6, [0, 3, 18]), (7, [2]), (8, [2])], spec_l3Vals_L A c_197 A.fuel⟩
theorem spec_l3Vals_l0_ok (A : PM.Prims) (c_197 : spec_l3Val_T) (n : Nat) (l1 : List Int) (i2 : Int) (K : Go.Exit → PM.S → PM.R) : spec_l3Vals_L A c_197 (n + 1) 0 ⟨[(0, .arr (.ints 3 .i64 l1)), (3, .int .i64 i2)], []⟩ K = PM.roundF A cx (PM.runD A cx (spec_l3Vals_E A c_197).inl (spec_l3Vals_E A c_197).Γ 3) (spec_l3Vals_E A c_197) (spec_l3Vals_L A c_197 n) 0 Go.Proofs.Try.f107 ⟨[(0, .arr (.ints 3 .i64 l1)), (3, .int .i64 i2)], []⟩ K := by kernel_rfl
theorem spec_l3Vals_ok (A : PM.Prims) (c_197 : spec_l3Val_T) (l : List Int) (k : PM.V → PM.R) : PM.pfun A cx [] (spec_l3Vals_E A c_197) Go.Proofs.Try.f107 [.arr (.ints 3 .i64 l)] k = spec_l3Vals_f A c_197 l (fun r0 => k (.bool r0)) := by kernel_rfl

theorem spec_l3Vals_fn : PM.FnIs Try.prog 107 Try.f107 := .of Try.func107 (by kernel_rfl) (by kernel_rfl)
theorem spec_l3Vals_g : PM.GOk Try.prog cx 107 ⟨[], spec_l3Vals_w (spec_l3Vals PM.std), none⟩ := by
  refine ⟨spec_l3Vals_fn.enter, fun _ ds k r h => ?_, fun hm => absurd rfl hm, fun _ e => (by cases e)⟩
  change spec_l3Vals_w (spec_l3Vals PM.std) ds k = some r at h
  unfold spec_l3Vals_w at h
  split at h
  · exact PM.pfun_ok (E := spec_l3Vals_E PM.std (spec_l3Val PM.std)) (L := fun n => spec_l3Vals_L PM.std (spec_l3Val PM.std) n) (N := PM.std.fuel) cx_ok (.cons spec_l3Val_g .nil) mixed .nil spec_l3Vals_fn (by kernel_rfl) ⟨rfl, fun cur σ K => by
      dsimp only [spec_l3Vals_L]
      split <;> rfl, fun n cur σ K r h => by
      dsimp only [spec_l3Vals_L] at h
      split at h
      · exact (spec_l3Vals_l0_ok PM.std (spec_l3Val PM.std) n _ _ K).symm.trans h
      · cases h⟩
      ((spec_l3Vals_ok PM.std (spec_l3Val PM.std) _ k).trans h)
  · cases h

abbrev spec_l3Cell_T := (Int) → ((Bool) → PM.R) → PM.R
noncomputable def spec_l3Cell_w (c : spec_l3Cell_T) (ds : List PM.V) (k : PM.V → PM.R) : PM.R :=
  match ds with
  | [.int .i64 i] => c i (fun r0 => k (.bool r0))
  | _ => none
noncomputable def spec_l3Cell_f (A : PM.Prims) (c_103 : spec_l1In_T) (i : Int) (k : (Bool) → PM.R) : PM.R :=
  c_103 i 0 7 (fun r1 =>
    k r1)
noncomputable def spec_l3Cell (A : PM.Prims) : spec_l3Cell_T := spec_l3Cell_f A (spec_l1In A)
noncomputable def spec_l3Cell_L (A : PM.Prims) (c_103 : spec_l1In_T) (n : Nat) : PM.Lam := fun cur σ K =>
  match cur, σ, K with
  | _, _, _ => none
noncomputable def spec_l3Cell_E (A : PM.Prims) (c_103 : spec_l1In_T) : PM.Env := ⟨[(103, ⟨[], spec_l1In_w c_103, none⟩)], [], [], [(0, [0]), (1, [2])], spec_l3Cell_L A c_103 A.fuel⟩
theorem spec_l3Cell_ok (A : PM.Prims) (c_103 : spec_l1In_T) (i : Int) (k : PM.V → PM.R) : PM.pfun A cx [] (spec_l3Cell_E A c_103) Go.Proofs.Try.f140 [.int .i64 i] k = spec_l3Cell_f A c_103 i (fun r0 => k (.bool r0)) := by kernel_rfl

theorem spec_l3Cell_fn : PM.FnIs Try.prog 140 Try.f140 := .of Try.func140 (by kernel_rfl) (by kernel_rfl)
theorem spec_l3Cell_g : PM.GOk Try.prog cx 140 ⟨[], spec_l3Cell_w (spec_l3Cell PM.std), none⟩ := by
  refine ⟨spec_l3Cell_fn.enter, fun _ ds k r h => ?_, fun hm => absurd rfl hm, fun _ e => (by cases e)⟩
  change spec_l3Cell_w (spec_l3Cell PM.std) ds k = some r at h
  unfold spec_l3Cell_w at h
  split at h
  · exact PM.pfun_ok (E := spec_l3Cell_E PM.std (spec_l1In PM.std)) (L := fun n => spec_l3Cell_L PM.std (spec_l1In PM.std) n) (N := PM.std.fuel) cx_ok (.cons spec_l1In_g .nil) mixed .nil spec_l3Cell_fn (by kernel_rfl) ⟨rfl, fun _ _ _ => rfl, fun n cur σ K r h => by cases h⟩
      ((spec_l3Cell_ok PM.std (spec_l1In PM.std) _ k).trans h)
  · cases h

abbrev spec_RowsOk_T := (List (List Int)) → ((Bool) → PM.R) → PM.R
noncomputable def spec_RowsOk_w (c : spec_RowsOk_T) (ds : List PM.V) (k : PM.V → PM.R) : PM.R :=
  match ds with
  | [.arr (.vecs 161 2 l)] => c l (fun r0 => k (.bool r0))
  | _ => none
noncomputable def spec_RowsOk_l0 (A : PM.Prims) (c_197 : spec_l3Val_T) (c_140 : spec_l3Cell_T) : Nat → (List (List Int)) → (Int) → ((Bool) → PM.R) → (Unit → PM.R) → PM.R
  | 0, _, _, _, _ => none
  | n + 1, l1, i2, kret_0, kx0_0 =>
    bif (A.lt i2 (A.vlen l1)) then
      bif (A.inb i2 (A.vlen l1)) then
        c_140 (A.vget l1 i2 0) (fun r3 =>
          bif (A.not r3) then
            kret_0 false
          else
            bif (A.inb i2 (A.vlen l1)) then
              c_197 (A.vget l1 i2 1) (fun r5 =>
                bif (A.not r5) then
                  kret_0 false
                else
                  spec_RowsOk_l0 A c_197 c_140 n l1 (A.add .i64 i2 1) kret_0 kx0_0)
            else
              none)
      else
        none
    else
      kx0_0 ()
noncomputable def spec_RowsOk_f (A : PM.Prims) (c_197 : spec_l3Val_T) (c_140 : spec_l3Cell_T) (l : List (List Int)) (k : (Bool) → PM.R) : PM.R :=
  bif (A.lt 300 (A.vlen l)) then
    k false
  else
    spec_RowsOk_l0 A c_197 c_140 A.fuel l 0 (fun t246 =>
      k t246) (fun _ =>
      k true)
noncomputable def spec_RowsOk (A : PM.Prims) : spec_RowsOk_T := spec_RowsOk_f A (spec_l3Val A) (spec_l3Cell A)
noncomputable def spec_RowsOk_L (A : PM.Prims) (c_197 : spec_l3Val_T) (c_140 : spec_l3Cell_T) (n : Nat) : PM.Lam := fun cur σ K =>
  match cur, σ, K with
  | 0, ⟨[(0, .arr (.vecs 161 2 l1)), (3, .int .i64 i2)], []⟩, K => spec_RowsOk_l0 A c_197 c_140 n l1 i2 (fun t24 => K .ret ⟨[(2, .bool t24)], []⟩) (fun _ => K (.exit 0) ⟨[], []⟩)
  | _, _, _ => none
noncomputable def spec_RowsOk_E (A : PM.Prims) (c_197 : spec_l3Val_T) (c_140 : spec_l3Cell_T) : PM.Env := ⟨[(197, ⟨[], spec_l3Val_w c_197, none⟩), (140, ⟨[], spec_l3Cell_w c_140, none⟩)], [], [(0, [0, 3], [2])], [(0, [0]), (1, [0, 6]), (2, [2]), (3, [0, 3]), (4, [0, 3, 10]), (5, [0, 3]), (6, [0, 3, 28]), (7, [2]), (8, [2])], spec_RowsOk_L A c_197 c_140 A.fuel⟩
theorem spec_RowsOk_l0_ok (A : PM.Prims) (c_197 : spec_l3Val_T) (c_140 : spec_l3Cell_T) (n : Nat) (l1 : List (List Int)) (i2 : Int) (K : Go.Exit → PM.S → PM.R) : spec_RowsOk_L A c_197 c_140 (n + 1) 0 ⟨[(0, .arr (.vecs 161 2 l1)), (3, .int .i64 i2)], []⟩ K = PM.roundF A cx (PM.runD A cx (spec_RowsOk_E A c_197 c_140).inl (spec_RowsOk_E A c_197 c_140).Γ 3) (spec_RowsOk_E A c_197 c_140) (spec_RowsOk_L A c_197 c_140 n) 0 Go.Proofs.Try.f104 ⟨[(0, .arr (.vecs 161 2 l1)), (3, .int .i64 i2)], []⟩ K := by kernel_rfl
theorem spec_RowsOk_ok (A : PM.Prims) (c_197 : spec_l3Val_T) (c_140 : spec_l3Cell_T) (l : List (List Int)) (k : PM.V → PM.R) : PM.pfun A cx [] (spec_RowsOk_E A c_197 c_140) Go.Proofs.Try.f104 [.arr (.vecs 161 2 l)] k = spec_RowsOk_f A c_197 c_140 l (fun r0 => k (.bool r0)) := by kernel_rfl

theorem spec_RowsOk_fn : PM.FnIs Try.prog 104 Try.f104 := .of Try.func104 (by kernel_rfl) (by kernel_rfl)
theorem spec_RowsOk_g : PM.GOk Try.prog cx 104 ⟨[], spec_RowsOk_w (spec_RowsOk PM.std), none⟩ := by
  refine ⟨spec_RowsOk_fn.enter, fun _ ds k r h => ?_, fun hm => absurd rfl hm, fun _ e => (by cases e)⟩
  change spec_RowsOk_w (spec_RowsOk PM.std) ds k = some r at h
  unfold spec_RowsOk_w at h
  split at h
  · exact PM.pfun_ok (E := spec_RowsOk_E PM.std (spec_l3Val PM.std) (spec_l3Cell PM.std)) (L := fun n => spec_RowsOk_L PM.std (spec_l3Val PM.std) (spec_l3Cell PM.std) n) (N := PM.std.fuel) cx_ok (.cons spec_l3Val_g (.cons spec_l3Cell_g .nil)) mixed .nil spec_RowsOk_fn (by kernel_rfl) ⟨rfl, fun cur σ K => by
      dsimp only [spec_RowsOk_L]
      split <;> rfl, fun n cur σ K r h => by
      dsimp only [spec_RowsOk_L] at h
      split at h
      · exact (spec_RowsOk_l0_ok PM.std (spec_l3Val PM.std) (spec_l3Cell PM.std) n _ _ K).symm.trans h
      · cases h⟩
      ((spec_RowsOk_ok PM.std (spec_l3Val PM.std) (spec_l3Cell PM.std) _ k).trans h)
  · cases h

abbrev spec_Overlay_T := (List Int) → (List (List Int)) → ((List Int) → PM.R) → PM.R
noncomputable def spec_Overlay_w (c : spec_Overlay_T) (ds : List PM.V) (k : PM.V → PM.R) : PM.R :=
  match ds with
  | [.arr (.ints 3 .i64 cells), .arr (.vecs 161 2 l)] => c cells l (fun r0 => k (.arr (.ints 3 .i64 r0)))
  | _ => none
noncomputable def spec_Overlay_l0 (A : PM.Prims) (c_107 : spec_l3Vals_T) (c_104 : spec_RowsOk_T) : Nat → (List (List Int)) → (Int) → (List Int) → ((List Int) → PM.R) → PM.R
  | 0, _, _, _, _ => none
  | n + 1, l3, i4, o05, kx0_0 =>
    bif (A.lt i4 (A.vlen l3)) then
      bif (A.inb i4 (A.vlen l3)) then
        bif (A.inb i4 (A.vlen l3)) then
          bif (A.inb (A.vget l3 i4 0) (A.ilen o05)) then
            spec_Overlay_l0 A c_107 c_104 n l3 (A.add .i64 i4 1) (A.iset o05 (A.vget l3 i4 0) (A.vget l3 i4 1)) kx0_0
          else
            none
        else
          none
      else
        none
    else
      kx0_0 o05
noncomputable def spec_Overlay_f (A : PM.Prims) (c_107 : spec_l3Vals_T) (c_104 : spec_RowsOk_T) (cells : List Int) (l : List (List Int)) (k : (List Int) → PM.R) : PM.R :=
  c_107 cells (fun r1 =>
    bif (A.not r1) then
      k []
    else
      c_104 l (fun r2 =>
        bif (A.not r2) then
          k []
        else
          bif (A.room (A.ilen []) (A.ilen cells)) then
            spec_Overlay_l0 A c_107 c_104 A.fuel l 0 (A.iapp [] cells) (fun o067 =>
              k o067)
          else
            none))
noncomputable def spec_Overlay (A : PM.Prims) : spec_Overlay_T := spec_Overlay_f A (spec_l3Vals A) (spec_RowsOk A)
noncomputable def spec_Overlay_L (A : PM.Prims) (c_107 : spec_l3Vals_T) (c_104 : spec_RowsOk_T) (n : Nat) : PM.Lam := fun cur σ K =>
  match cur, σ, K with
  | 0, ⟨[(1, .arr (.vecs 161 2 l3)), (5, .sref 0), (6, .int .i64 i4)], [(0, .arr true (.ints 3 .i64 o05))]⟩, K => spec_Overlay_l0 A c_107 c_104 n l3 i4 o05 (fun o06 => K (.exit 0) ⟨[(5, .sref 0)], [(0, .arr true (.ints 3 .i64 o06))]⟩)
  | _, _, _ => none
noncomputable def spec_Overlay_E (A : PM.Prims) (c_107 : spec_l3Vals_T) (c_104 : spec_RowsOk_T) : PM.Env := ⟨[(107, ⟨[], spec_l3Vals_w c_107, none⟩), (104, ⟨[], spec_RowsOk_w c_104, none⟩)], [], [(0, [1, 5, 6], [4, 5])], [(0, [0, 1]), (1, [0, 1, 14]), (2, [4]), (3, [1, 5]), (4, [1, 5, 6]), (5, [1, 5, 6, 22]), (6, [1, 5, 6]), (7, [1, 5, 6]), (8, [4])], spec_Overlay_L A c_107 c_104 A.fuel⟩
theorem spec_Overlay_l0_ok (A : PM.Prims) (c_107 : spec_l3Vals_T) (c_104 : spec_RowsOk_T) (n : Nat) (l3 : List (List Int)) (i4 : Int) (o05 : List Int) (K : Go.Exit → PM.S → PM.R) : spec_Overlay_L A c_107 c_104 (n + 1) 0 ⟨[(1, .arr (.vecs 161 2 l3)), (5, .sref 0), (6, .int .i64 i4)], [(0, .arr true (.ints 3 .i64 o05))]⟩ K = PM.roundF A cx (PM.runD A cx (spec_Overlay_E A c_107 c_104).inl (spec_Overlay_E A c_107 c_104).Γ 3) (spec_Overlay_E A c_107 c_104) (spec_Overlay_L A c_107 c_104 n) 0 Go.Proofs.Try.f29 ⟨[(1, .arr (.vecs 161 2 l3)), (5, .sref 0), (6, .int .i64 i4)], [(0, .arr true (.ints 3 .i64 o05))]⟩ K := by kernel_rfl
theorem spec_Overlay_ok (A : PM.Prims) (c_107 : spec_l3Vals_T) (c_104 : spec_RowsOk_T) (cells : List Int) (l : List (List Int)) (k : PM.V → PM.R) : PM.pfun A cx [] (spec_Overlay_E A c_107 c_104) Go.Proofs.Try.f29 [.arr (.ints 3 .i64 cells), .arr (.vecs 161 2 l)] k = spec_Overlay_f A c_107 c_104 cells l (fun r0 => k (.arr (.ints 3 .i64 r0))) := by kernel_rfl

theorem spec_Overlay_fn : PM.FnIs Try.prog 29 Try.f29 := .of Try.func29 (by kernel_rfl) (by kernel_rfl)
theorem spec_Overlay_g : PM.GOk Try.prog cx 29 ⟨[], spec_Overlay_w (spec_Overlay PM.std), none⟩ := by
  refine ⟨spec_Overlay_fn.enter, fun _ ds k r h => ?_, fun hm => absurd rfl hm, fun _ e => (by cases e)⟩
  change spec_Overlay_w (spec_Overlay PM.std) ds k = some r at h
  unfold spec_Overlay_w at h
  split at h
  · exact PM.pfun_ok (E := spec_Overlay_E PM.std (spec_l3Vals PM.std) (spec_RowsOk PM.std)) (L := fun n => spec_Overlay_L PM.std (spec_l3Vals PM.std) (spec_RowsOk PM.std) n) (N := PM.std.fuel) cx_ok (.cons spec_l3Vals_g (.cons spec_RowsOk_g .nil)) mixed .nil spec_Overlay_fn (by kernel_rfl) ⟨rfl, fun cur σ K => by
      dsimp only [spec_Overlay_L]
      split <;> rfl, fun n cur σ K r h => by
      dsimp only [spec_Overlay_L] at h
      split at h
      · exact (spec_Overlay_l0_ok PM.std (spec_l3Vals PM.std) (spec_RowsOk PM.std) n _ _ _ K).symm.trans h
      · cases h⟩
      ((spec_Overlay_ok PM.std (spec_l3Vals PM.std) (spec_RowsOk PM.std) _ _ k).trans h)
  · cases h

abbrev impl_within_T := (Int) → (Int) → (Int) → ((Bool) → PM.R) → PM.R
noncomputable def impl_within_w (c : impl_within_T) (ds : List PM.V) (k : PM.V → PM.R) : PM.R :=
  match ds with
  | [.int .i64 x, .int .i64 lo, .int .i64 hi] => c x lo hi (fun r0 => k (.bool r0))
  | _ => none
noncomputable def impl_within_f (A : PM.Prims) (x : Int) (lo : Int) (hi : Int) (k : (Bool) → PM.R) : PM.R :=
  bif (A.le lo x) then
    k (A.le x hi)
  else
    k false
noncomputable def impl_within (A : PM.Prims) : impl_within_T := impl_within_f A
noncomputable def impl_within_L (A : PM.Prims) (n : Nat) : PM.Lam := fun cur σ K =>
  match cur, σ, K with
  | _, _, _ => none
noncomputable def impl_within_E (A : PM.Prims) : PM.Env := ⟨[], [], [], [(0, [0, 1, 2]), (1, [6])], impl_within_L A A.fuel⟩
theorem impl_within_ok (A : PM.Prims) (x : Int) (lo : Int) (hi : Int) (k : PM.V → PM.R) : PM.pfun A cx [] (impl_within_E A) Go.Proofs.Try.f134 [.int .i64 x, .int .i64 lo, .int .i64 hi] k = impl_within_f A x lo hi (fun r0 => k (.bool r0)) := by kernel_rfl

theorem impl_within_fn : PM.FnIs Try.prog 134 Try.f134 := .of Try.func134 (by kernel_rfl) (by kernel_rfl)
theorem impl_within_g : PM.GOk Try.prog cx 134 ⟨[], impl_within_w (impl_within PM.std), none⟩ := by
  refine ⟨impl_within_fn.enter, fun _ ds k r h => ?_, fun hm => absurd rfl hm, fun _ e => (by cases e)⟩
  change impl_within_w (impl_within PM.std) ds k = some r at h
  unfold impl_within_w at h
  split at h
  · exact PM.pfun_ok (E := impl_within_E PM.std) (L := fun n => impl_within_L PM.std n) (N := PM.std.fuel) cx_ok .nil mixed .nil impl_within_fn (by kernel_rfl) ⟨rfl, fun _ _ _ => rfl, fun n cur σ K r h => by cases h⟩
      ((impl_within_ok PM.std _ _ _ k).trans h)
  · cases h

abbrev impl_isCell_T := (Int) → ((Bool) → PM.R) → PM.R
noncomputable def impl_isCell_w (c : impl_isCell_T) (ds : List PM.V) (k : PM.V → PM.R) : PM.R :=
  match ds with
  | [.int .i64 i] => c i (fun r0 => k (.bool r0))
  | _ => none
noncomputable def impl_isCell_f (A : PM.Prims) (c_134 : impl_within_T) (i : Int) (k : (Bool) → PM.R) : PM.R :=
  c_134 i 0 7 (fun r1 =>
    k r1)
noncomputable def impl_isCell (A : PM.Prims) : impl_isCell_T := impl_isCell_f A (impl_within A)
noncomputable def impl_isCell_L (A : PM.Prims) (c_134 : impl_within_T) (n : Nat) : PM.Lam := fun cur σ K =>
  match cur, σ, K with
  | _, _, _ => none
noncomputable def impl_isCell_E (A : PM.Prims) (c_134 : impl_within_T) : PM.Env := ⟨[(134, ⟨[], impl_within_w c_134, none⟩)], [], [], [(0, [0]), (1, [2])], impl_isCell_L A c_134 A.fuel⟩
theorem impl_isCell_ok (A : PM.Prims) (c_134 : impl_within_T) (i : Int) (k : PM.V → PM.R) : PM.pfun A cx [] (impl_isCell_E A c_134) Go.Proofs.Try.f144 [.int .i64 i] k = impl_isCell_f A c_134 i (fun r0 => k (.bool r0)) := by kernel_rfl

theorem impl_isCell_fn : PM.FnIs Try.prog 144 Try.f144 := .of Try.func144 (by kernel_rfl) (by kernel_rfl)
theorem impl_isCell_g : PM.GOk Try.prog cx 144 ⟨[], impl_isCell_w (impl_isCell PM.std), none⟩ := by
  refine ⟨impl_isCell_fn.enter, fun _ ds k r h => ?_, fun hm => absurd rfl hm, fun _ e => (by cases e)⟩
  change impl_isCell_w (impl_isCell PM.std) ds k = some r at h
  unfold impl_isCell_w at h
  split at h
  · exact PM.pfun_ok (E := impl_isCell_E PM.std (impl_within PM.std)) (L := fun n => impl_isCell_L PM.std (impl_within PM.std) n) (N := PM.std.fuel) cx_ok (.cons impl_within_g .nil) mixed .nil impl_isCell_fn (by kernel_rfl) ⟨rfl, fun _ _ _ => rfl, fun n cur σ K r h => by cases h⟩
      ((impl_isCell_ok PM.std (impl_within PM.std) _ k).trans h)
  · cases h

abbrev impl_isValue_T := (Int) → ((Bool) → PM.R) → PM.R
noncomputable def impl_isValue_w (c : impl_isValue_T) (ds : List PM.V) (k : PM.V → PM.R) : PM.R :=
  match ds with
  | [.int .i64 v] => c v (fun r0 => k (.bool r0))
  | _ => none
noncomputable def impl_isValue_f (A : PM.Prims) (c_134 : impl_within_T) (v : Int) (k : (Bool) → PM.R) : PM.R :=
  c_134 v 0 65535 (fun r1 =>
    k r1)
noncomputable def impl_isValue (A : PM.Prims) : impl_isValue_T := impl_isValue_f A (impl_within A)
noncomputable def impl_isValue_L (A : PM.Prims) (c_134 : impl_within_T) (n : Nat) : PM.Lam := fun cur σ K =>
  match cur, σ, K with
  | _, _, _ => none
noncomputable def impl_isValue_E (A : PM.Prims) (c_134 : impl_within_T) : PM.Env := ⟨[(134, ⟨[], impl_within_w c_134, none⟩)], [], [], [(0, [0]), (1, [2])], impl_isValue_L A c_134 A.fuel⟩
theorem impl_isValue_ok (A : PM.Prims) (c_134 : impl_within_T) (v : Int) (k : PM.V → PM.R) : PM.pfun A cx [] (impl_isValue_E A c_134) Go.Proofs.Try.f193 [.int .i64 v] k = impl_isValue_f A c_134 v (fun r0 => k (.bool r0)) := by kernel_rfl

theorem impl_isValue_fn : PM.FnIs Try.prog 193 Try.f193 := .of Try.func193 (by kernel_rfl) (by kernel_rfl)
theorem impl_isValue_g : PM.GOk Try.prog cx 193 ⟨[], impl_isValue_w (impl_isValue PM.std), none⟩ := by
  refine ⟨impl_isValue_fn.enter, fun _ ds k r h => ?_, fun hm => absurd rfl hm, fun _ e => (by cases e)⟩
  change impl_isValue_w (impl_isValue PM.std) ds k = some r at h
  unfold impl_isValue_w at h
  split at h
  · exact PM.pfun_ok (E := impl_isValue_E PM.std (impl_within PM.std)) (L := fun n => impl_isValue_L PM.std (impl_within PM.std) n) (N := PM.std.fuel) cx_ok (.cons impl_within_g .nil) mixed .nil impl_isValue_fn (by kernel_rfl) ⟨rfl, fun _ _ _ => rfl, fun n cur σ K r h => by cases h⟩
      ((impl_isValue_ok PM.std (impl_within PM.std) _ k).trans h)
  · cases h

abbrev impl_RowsOk_T := (List (List Int)) → ((Bool) → PM.R) → PM.R
noncomputable def impl_RowsOk_w (c : impl_RowsOk_T) (ds : List PM.V) (k : PM.V → PM.R) : PM.R :=
  match ds with
  | [.arr (.vecs 161 2 l)] => c l (fun r0 => k (.bool r0))
  | _ => none
noncomputable def impl_RowsOk_l0 (A : PM.Prims) (c_144 : impl_isCell_T) (c_193 : impl_isValue_T) : Nat → (List (List Int)) → (List (List Int)) → (Int) → (Int) → ((Bool) → PM.R) → ((List (List Int)) → PM.R) → PM.R
  | 0, _, _, _, _, _, _ => none
  | n + 1, l1, t52, t63, t74, kret_0, kx0_0 =>
    bif (A.lt t74 t63) then
      bif (A.inb t74 (A.vlen t52)) then
        c_144 (A.vget t52 t74 0) (fun r5 =>
          bif (A.not r5) then
            kret_0 false
          else
            c_193 (A.vget t52 t74 1) (fun r7 =>
              bif (A.not r7) then
                kret_0 false
              else
                impl_RowsOk_l0 A c_144 c_193 n l1 t52 t63 (A.add .i64 t74 1) kret_0 kx0_0))
      else
        none
    else
      kx0_0 l1
noncomputable def impl_RowsOk_f (A : PM.Prims) (c_144 : impl_isCell_T) (c_193 : impl_isValue_T) (l : List (List Int)) (k : (Bool) → PM.R) : PM.R :=
  impl_RowsOk_l0 A c_144 c_193 A.fuel l l (A.vlen l) 0 (fun t269 =>
    k t269) (fun l810 =>
    k (A.le (A.vlen l810) 300))
noncomputable def impl_RowsOk (A : PM.Prims) : impl_RowsOk_T := impl_RowsOk_f A (impl_isCell A) (impl_isValue A)
noncomputable def impl_RowsOk_L (A : PM.Prims) (c_144 : impl_isCell_T) (c_193 : impl_isValue_T) (n : Nat) : PM.Lam := fun cur σ K =>
  match cur, σ, K with
  | 0, ⟨[(0, .arr (.vecs 161 2 l1)), (5, .arr (.vecs 161 2 t52)), (6, .int .i64 t63), (7, .int .i64 t74)], []⟩, K => impl_RowsOk_l0 A c_144 c_193 n l1 t52 t63 t74 (fun t26 => K .ret ⟨[(2, .bool t26)], []⟩) (fun l8 => K (.exit 0) ⟨[(0, .arr (.vecs 161 2 l8))], []⟩)
  | _, _, _ => none
noncomputable def impl_RowsOk_E (A : PM.Prims) (c_144 : impl_isCell_T) (c_193 : impl_isValue_T) : PM.Env := ⟨[(144, ⟨[], impl_isCell_w c_144, none⟩), (193, ⟨[], impl_isValue_w c_193, none⟩)], [], [(0, [0, 5, 6, 7], [0, 2])], [(0, [0]), (1, [0, 5, 6, 7]), (2, [0, 5, 6, 7, 8]), (3, [0, 4, 5, 6, 7]), (4, [0, 5, 6, 7, 20]), (5, [2]), (6, [0, 5, 6, 7]), (7, [2])], impl_RowsOk_L A c_144 c_193 A.fuel⟩
theorem impl_RowsOk_l0_ok (A : PM.Prims) (c_144 : impl_isCell_T) (c_193 : impl_isValue_T) (n : Nat) (l1 : List (List Int)) (t52 : List (List Int)) (t63 : Int) (t74 : Int) (K : Go.Exit → PM.S → PM.R) : impl_RowsOk_L A c_144 c_193 (n + 1) 0 ⟨[(0, .arr (.vecs 161 2 l1)), (5, .arr (.vecs 161 2 t52)), (6, .int .i64 t63), (7, .int .i64 t74)], []⟩ K = PM.roundF A cx (PM.runD A cx (impl_RowsOk_E A c_144 c_193).inl (impl_RowsOk_E A c_144 c_193).Γ 3) (impl_RowsOk_E A c_144 c_193) (impl_RowsOk_L A c_144 c_193 n) 0 Go.Proofs.Try.f128 ⟨[(0, .arr (.vecs 161 2 l1)), (5, .arr (.vecs 161 2 t52)), (6, .int .i64 t63), (7, .int .i64 t74)], []⟩ K := by kernel_rfl
theorem impl_RowsOk_ok (A : PM.Prims) (c_144 : impl_isCell_T) (c_193 : impl_isValue_T) (l : List (List Int)) (k : PM.V → PM.R) : PM.pfun A cx [] (impl_RowsOk_E A c_144 c_193) Go.Proofs.Try.f128 [.arr (.vecs 161 2 l)] k = impl_RowsOk_f A c_144 c_193 l (fun r0 => k (.bool r0)) := by kernel_rfl

theorem impl_RowsOk_fn : PM.FnIs Try.prog 128 Try.f128 := .of Try.func128 (by kernel_rfl) (by kernel_rfl)
theorem impl_RowsOk_g : PM.GOk Try.prog cx 128 ⟨[], impl_RowsOk_w (impl_RowsOk PM.std), none⟩ := by
  refine ⟨impl_RowsOk_fn.enter, fun _ ds k r h => ?_, fun hm => absurd rfl hm, fun _ e => (by cases e)⟩
  change impl_RowsOk_w (impl_RowsOk PM.std) ds k = some r at h
  unfold impl_RowsOk_w at h
  split at h
  · exact PM.pfun_ok (E := impl_RowsOk_E PM.std (impl_isCell PM.std) (impl_isValue PM.std)) (L := fun n => impl_RowsOk_L PM.std (impl_isCell PM.std) (impl_isValue PM.std) n) (N := PM.std.fuel) cx_ok (.cons impl_isCell_g (.cons impl_isValue_g .nil)) mixed .nil impl_RowsOk_fn (by kernel_rfl) ⟨rfl, fun cur σ K => by
      dsimp only [impl_RowsOk_L]
      split <;> rfl, fun n cur σ K r h => by
      dsimp only [impl_RowsOk_L] at h
      split at h
      · exact (impl_RowsOk_l0_ok PM.std (impl_isCell PM.std) (impl_isValue PM.std) n _ _ _ _ K).symm.trans h
      · cases h⟩
      ((impl_RowsOk_ok PM.std (impl_isCell PM.std) (impl_isValue PM.std) _ k).trans h)
  · cases h

abbrev impl_areValues_T := (List Int) → (Int) → ((Bool) → PM.R) → PM.R
noncomputable def impl_areValues_w (c : impl_areValues_T) (ds : List PM.V) (k : PM.V → PM.R) : PM.R :=
  match ds with
  | [.arr (.ints 3 .i64 l), .int .i64 n_] => c l n_ (fun r0 => k (.bool r0))
  | _ => none
noncomputable def impl_areValues_l0 (A : PM.Prims) (c_193 : impl_isValue_T) : Nat → (List Int) → (Int) → (List Int) → (Int) → (Int) → ((Bool) → PM.R) → ((List Int) → (Int) → PM.R) → PM.R
  | 0, _, _, _, _, _, _, _ => none
  | n + 1, l1, n2, t73, t84, t95, kret_0, kx0_0 =>
    bif (A.lt t95 t84) then
      bif (A.inb t95 (A.ilen t73)) then
        c_193 (A.iget t73 t95) (fun r6 =>
          bif (A.not r6) then
            kret_0 false
          else
            impl_areValues_l0 A c_193 n l1 n2 t73 t84 (A.add .i64 t95 1) kret_0 kx0_0)
      else
        none
    else
      kx0_0 l1 n2
noncomputable def impl_areValues_f (A : PM.Prims) (c_193 : impl_isValue_T) (l : List Int) (n_ : Int) (k : (Bool) → PM.R) : PM.R :=
  impl_areValues_l0 A c_193 A.fuel l n_ l (A.ilen l) 0 (fun t4710 =>
    k t4710) (fun l811 n912 =>
    k (A.eq (A.ilen l811) n912))
noncomputable def impl_areValues (A : PM.Prims) : impl_areValues_T := impl_areValues_f A (impl_isValue A)
noncomputable def impl_areValues_L (A : PM.Prims) (c_193 : impl_isValue_T) (n : Nat) : PM.Lam := fun cur σ K =>
  match cur, σ, K with
  | 0, ⟨[(0, .arr (.ints 3 .i64 l1)), (1, .int .i64 n2), (7, .arr (.ints 3 .i64 t73)), (8, .int .i64 t84), (9, .int .i64 t95)], []⟩, K => impl_areValues_l0 A c_193 n l1 n2 t73 t84 t95 (fun t47 => K .ret ⟨[(4, .bool t47)], []⟩) (fun l8 n9 => K (.exit 0) ⟨[(0, .arr (.ints 3 .i64 l8)), (1, .int .i64 n9)], []⟩)
  | _, _, _ => none
noncomputable def impl_areValues_E (A : PM.Prims) (c_193 : impl_isValue_T) : PM.Env := ⟨[(193, ⟨[], impl_isValue_w c_193, none⟩)], [], [(0, [0, 1, 7, 8, 9], [0, 1, 4])], [(0, [0, 1]), (1, [0, 1, 7, 8, 9]), (2, [0, 1, 7, 8, 9, 10]), (3, [0, 1, 6, 7, 8, 9]), (4, [0, 1, 7, 8, 9, 15]), (5, [4]), (6, [0, 1, 7, 8, 9]), (7, [4])], impl_areValues_L A c_193 A.fuel⟩
theorem impl_areValues_l0_ok (A : PM.Prims) (c_193 : impl_isValue_T) (n : Nat) (l1 : List Int) (n2 : Int) (t73 : List Int) (t84 : Int) (t95 : Int) (K : Go.Exit → PM.S → PM.R) : impl_areValues_L A c_193 (n + 1) 0 ⟨[(0, .arr (.ints 3 .i64 l1)), (1, .int .i64 n2), (7, .arr (.ints 3 .i64 t73)), (8, .int .i64 t84), (9, .int .i64 t95)], []⟩ K = PM.roundF A cx (PM.runD A cx (impl_areValues_E A c_193).inl (impl_areValues_E A c_193).Γ 3) (impl_areValues_E A c_193) (impl_areValues_L A c_193 n) 0 Go.Proofs.Try.f97 ⟨[(0, .arr (.ints 3 .i64 l1)), (1, .int .i64 n2), (7, .arr (.ints 3 .i64 t73)), (8, .int .i64 t84), (9, .int .i64 t95)], []⟩ K := by kernel_rfl
theorem impl_areValues_ok (A : PM.Prims) (c_193 : impl_isValue_T) (l : List Int) (n_ : Int) (k : PM.V → PM.R) : PM.pfun A cx [] (impl_areValues_E A c_193) Go.Proofs.Try.f97 [.arr (.ints 3 .i64 l), .int .i64 n_] k = impl_areValues_f A c_193 l n_ (fun r0 => k (.bool r0)) := by kernel_rfl

theorem impl_areValues_fn : PM.FnIs Try.prog 97 Try.f97 := .of Try.func97 (by kernel_rfl) (by kernel_rfl)
theorem impl_areValues_g : PM.GOk Try.prog cx 97 ⟨[], impl_areValues_w (impl_areValues PM.std), none⟩ := by
  refine ⟨impl_areValues_fn.enter, fun _ ds k r h => ?_, fun hm => absurd rfl hm, fun _ e => (by cases e)⟩
  change impl_areValues_w (impl_areValues PM.std) ds k = some r at h
  unfold impl_areValues_w at h
  split at h
  · exact PM.pfun_ok (E := impl_areValues_E PM.std (impl_isValue PM.std)) (L := fun n => impl_areValues_L PM.std (impl_isValue PM.std) n) (N := PM.std.fuel) cx_ok (.cons impl_isValue_g .nil) mixed .nil impl_areValues_fn (by kernel_rfl) ⟨rfl, fun cur σ K => by
      dsimp only [impl_areValues_L]
      split <;> rfl, fun n cur σ K r h => by
      dsimp only [impl_areValues_L] at h
      split at h
      · exact (impl_areValues_l0_ok PM.std (impl_isValue PM.std) n _ _ _ _ _ K).symm.trans h
      · cases h⟩
      ((impl_areValues_ok PM.std (impl_isValue PM.std) _ _ k).trans h)
  · cases h

abbrev impl_copyInts_T := (List Int) → ((List Int) → PM.R) → PM.R
noncomputable def impl_copyInts_w (c : impl_copyInts_T) (ds : List PM.V) (k : PM.V → PM.R) : PM.R :=
  match ds with
  | [.arr (.ints 3 .i64 l)] => c l (fun r0 => k (.arr (.ints 3 .i64 r0)))
  | _ => none
noncomputable def impl_copyInts_f (A : PM.Prims) (l : List Int) (k : (List Int) → PM.R) : PM.R :=
  bif (A.room (A.ilen []) (A.ilen l)) then
    k (A.iapp [] l)
  else
    none
noncomputable def impl_copyInts (A : PM.Prims) : impl_copyInts_T := impl_copyInts_f A
noncomputable def impl_copyInts_L (A : PM.Prims) (n : Nat) : PM.Lam := fun cur σ K =>
  match cur, σ, K with
  | _, _, _ => none
noncomputable def impl_copyInts_E (A : PM.Prims) : PM.Env := ⟨[], [], [], [(0, [0]), (1, [2])], impl_copyInts_L A A.fuel⟩
theorem impl_copyInts_ok (A : PM.Prims) (l : List Int) (k : PM.V → PM.R) : PM.pfun A cx [] (impl_copyInts_E A) Go.Proofs.Try.f101 [.arr (.ints 3 .i64 l)] k = impl_copyInts_f A l (fun r0 => k (.arr (.ints 3 .i64 r0))) := by kernel_rfl

theorem impl_copyInts_fn : PM.FnIs Try.prog 101 Try.f101 := .of Try.func101 (by kernel_rfl) (by kernel_rfl)
theorem impl_copyInts_g : PM.GOk Try.prog cx 101 ⟨[], impl_copyInts_w (impl_copyInts PM.std), none⟩ := by
  refine ⟨impl_copyInts_fn.enter, fun _ ds k r h => ?_, fun hm => absurd rfl hm, fun _ e => (by cases e)⟩
  change impl_copyInts_w (impl_copyInts PM.std) ds k = some r at h
  unfold impl_copyInts_w at h
  split at h
  · exact PM.pfun_ok (E := impl_copyInts_E PM.std) (L := fun n => impl_copyInts_L PM.std n) (N := PM.std.fuel) cx_ok .nil mixed .nil impl_copyInts_fn (by kernel_rfl) ⟨rfl, fun _ _ _ => rfl, fun n cur σ K r h => by cases h⟩
      ((impl_copyInts_ok PM.std _ k).trans h)
  · cases h

abbrev impl_Overlay_T := (List Int) → (List (List Int)) → ((List Int) → PM.R) → PM.R
noncomputable def impl_Overlay_w (c : impl_Overlay_T) (ds : List PM.V) (k : PM.V → PM.R) : PM.R :=
  match ds with
  | [.arr (.ints 3 .i64 cells), .arr (.vecs 161 2 l)] => c cells l (fun r0 => k (.arr (.ints 3 .i64 r0)))
  | _ => none
noncomputable def impl_Overlay_l0 (A : PM.Prims) (c_128 : impl_RowsOk_T) (c_97 : impl_areValues_T) (c_101 : impl_copyInts_T) : Nat → (List (List Int)) → (Int) → (Int) → (List Int) → ((List Int) → PM.R) → PM.R
  | 0, _, _, _, _, _ => none
  | n + 1, t184, t195, t206, o07, kx0_0 =>
    bif (A.lt t206 t195) then
      bif (A.inb t206 (A.vlen t184)) then
        bif (A.inb (A.vget t184 t206 0) (A.ilen o07)) then
          impl_Overlay_l0 A c_128 c_97 c_101 n t184 t195 (A.add .i64 t206 1) (A.iset o07 (A.vget t184 t206 0) (A.vget t184 t206 1)) kx0_0
        else
          none
      else
        none
    else
      kx0_0 o07
noncomputable def impl_Overlay_f (A : PM.Prims) (c_128 : impl_RowsOk_T) (c_97 : impl_areValues_T) (c_101 : impl_copyInts_T) (cells : List Int) (l : List (List Int)) (k : (List Int) → PM.R) : PM.R :=
  c_97 cells 8 (fun r1 =>
    bif (A.not r1) then
      k []
    else
      c_128 l (fun r2 =>
        bif (A.not r2) then
          k []
        else
          c_101 cells (fun r3 =>
            impl_Overlay_l0 A c_128 c_97 c_101 A.fuel l (A.vlen l) 0 r3 (fun o089 =>
              k o089))))
noncomputable def impl_Overlay (A : PM.Prims) : impl_Overlay_T := impl_Overlay_f A (impl_RowsOk A) (impl_areValues A) (impl_copyInts A)
noncomputable def impl_Overlay_L (A : PM.Prims) (c_128 : impl_RowsOk_T) (c_97 : impl_areValues_T) (c_101 : impl_copyInts_T) (n : Nat) : PM.Lam := fun cur σ K =>
  match cur, σ, K with
  | 0, ⟨[(5, .sref 0), (18, .arr (.vecs 161 2 t184)), (19, .int .i64 t195), (20, .int .i64 t206)], [(0, .arr true (.ints 3 .i64 o07))]⟩, K => impl_Overlay_l0 A c_128 c_97 c_101 n t184 t195 t206 o07 (fun o08 => K (.exit 0) ⟨[(5, .sref 0)], [(0, .arr true (.ints 3 .i64 o08))]⟩)
  | _, _, _ => none
noncomputable def impl_Overlay_E (A : PM.Prims) (c_128 : impl_RowsOk_T) (c_97 : impl_areValues_T) (c_101 : impl_copyInts_T) : PM.Env := ⟨[(128, ⟨[], impl_RowsOk_w c_128, none⟩), (97, ⟨[], impl_areValues_w c_97, none⟩), (101, ⟨[], impl_copyInts_w c_101, none⟩)], [], [(0, [5, 18, 19, 20], [4, 5])], [(0, [0, 1]), (1, [0, 1, 15]), (2, [4]), (3, [1, 5]), (4, [5, 18, 19, 20]), (5, [5, 18, 19, 20, 21]), (6, [5, 7, 18, 19, 20]), (7, [5, 18, 19, 20]), (8, [5, 18, 19, 20]), (9, [4])], impl_Overlay_L A c_128 c_97 c_101 A.fuel⟩
theorem impl_Overlay_l0_ok (A : PM.Prims) (c_128 : impl_RowsOk_T) (c_97 : impl_areValues_T) (c_101 : impl_copyInts_T) (n : Nat) (t184 : List (List Int)) (t195 : Int) (t206 : Int) (o07 : List Int) (K : Go.Exit → PM.S → PM.R) : impl_Overlay_L A c_128 c_97 c_101 (n + 1) 0 ⟨[(5, .sref 0), (18, .arr (.vecs 161 2 t184)), (19, .int .i64 t195), (20, .int .i64 t206)], [(0, .arr true (.ints 3 .i64 o07))]⟩ K = PM.roundF A cx (PM.runD A cx (impl_Overlay_E A c_128 c_97 c_101).inl (impl_Overlay_E A c_128 c_97 c_101).Γ 3) (impl_Overlay_E A c_128 c_97 c_101) (impl_Overlay_L A c_128 c_97 c_101 n) 0 Go.Proofs.Try.f102 ⟨[(5, .sref 0), (18, .arr (.vecs 161 2 t184)), (19, .int .i64 t195), (20, .int .i64 t206)], [(0, .arr true (.ints 3 .i64 o07))]⟩ K := by kernel_rfl
theorem impl_Overlay_ok (A : PM.Prims) (c_128 : impl_RowsOk_T) (c_97 : impl_areValues_T) (c_101 : impl_copyInts_T) (cells : List Int) (l : List (List Int)) (k : PM.V → PM.R) : PM.pfun A cx [] (impl_Overlay_E A c_128 c_97 c_101) Go.Proofs.Try.f102 [.arr (.ints 3 .i64 cells), .arr (.vecs 161 2 l)] k = impl_Overlay_f A c_128 c_97 c_101 cells l (fun r0 => k (.arr (.ints 3 .i64 r0))) := by kernel_rfl

theorem impl_Overlay_fn : PM.FnIs Try.prog 102 Try.f102 := .of Try.func102 (by kernel_rfl) (by kernel_rfl)
theorem impl_Overlay_g : PM.GOk Try.prog cx 102 ⟨[], impl_Overlay_w (impl_Overlay PM.std), none⟩ := by
  refine ⟨impl_Overlay_fn.enter, fun _ ds k r h => ?_, fun hm => absurd rfl hm, fun _ e => (by cases e)⟩
  change impl_Overlay_w (impl_Overlay PM.std) ds k = some r at h
  unfold impl_Overlay_w at h
  split at h
  · exact PM.pfun_ok (E := impl_Overlay_E PM.std (impl_RowsOk PM.std) (impl_areValues PM.std) (impl_copyInts PM.std)) (L := fun n => impl_Overlay_L PM.std (impl_RowsOk PM.std) (impl_areValues PM.std) (impl_copyInts PM.std) n) (N := PM.std.fuel) cx_ok (.cons impl_RowsOk_g (.cons impl_areValues_g (.cons impl_copyInts_g .nil))) mixed .nil impl_Overlay_fn (by kernel_rfl) ⟨rfl, fun cur σ K => by
      dsimp only [impl_Overlay_L]
      split <;> rfl, fun n cur σ K r h => by
      dsimp only [impl_Overlay_L] at h
      split at h
      · exact (impl_Overlay_l0_ok PM.std (impl_RowsOk PM.std) (impl_areValues PM.std) (impl_copyInts PM.std) n _ _ _ _ K).symm.trans h
      · cases h⟩
      ((impl_Overlay_ok PM.std (impl_RowsOk PM.std) (impl_areValues PM.std) (impl_copyInts PM.std) _ _ k).trans h)
  · cases h

abbrev laws_eqIntS_T := (List Int) → (List Int) → ((Bool) → PM.R) → PM.R
noncomputable def laws_eqIntS_w (c : laws_eqIntS_T) (ds : List PM.V) (k : PM.V → PM.R) : PM.R :=
  match ds with
  | [.arr (.ints 3 .i64 a), .arr (.ints 3 .i64 b)] => c a b (fun r0 => k (.bool r0))
  | _ => none
noncomputable def laws_eqIntS_l0 (A : PM.Prims) : Nat → (List Int) → (List Int) → (Int) → ((Bool) → PM.R) → (Unit → PM.R) → PM.R
  | 0, _, _, _, _, _ => none
  | n + 1, a1, b2, i3, kret_0, kx0_0 =>
    bif (A.lt i3 (A.ilen a1)) then
      bif (A.inb i3 (A.ilen a1)) then
        bif (A.inb i3 (A.ilen b2)) then
          bif (A.not (A.eq (A.iget a1 i3) (A.iget b2 i3))) then
            kret_0 false
          else
            laws_eqIntS_l0 A n a1 b2 (A.add .i64 i3 1) kret_0 kx0_0
        else
          none
      else
        none
    else
      kx0_0 ()
noncomputable def laws_eqIntS_f (A : PM.Prims) (a : List Int) (b : List Int) (k : (Bool) → PM.R) : PM.R :=
  bif (A.not (A.eq (A.ilen a) (A.ilen b))) then
    k false
  else
    laws_eqIntS_l0 A A.fuel a b 0 (fun t445 =>
      k t445) (fun _ =>
      k true)
noncomputable def laws_eqIntS (A : PM.Prims) : laws_eqIntS_T := laws_eqIntS_f A
noncomputable def laws_eqIntS_L (A : PM.Prims) (n : Nat) : PM.Lam := fun cur σ K =>
  match cur, σ, K with
  | 0, ⟨[(0, .arr (.ints 3 .i64 a1)), (1, .arr (.ints 3 .i64 b2)), (5, .int .i64 i3)], []⟩, K => laws_eqIntS_l0 A n a1 b2 i3 (fun t44 => K .ret ⟨[(4, .bool t44)], []⟩) (fun _ => K (.exit 0) ⟨[], []⟩)
  | _, _, _ => none
noncomputable def laws_eqIntS_E (A : PM.Prims) : PM.Env := ⟨[], [], [(0, [0, 1, 5], [4])], [(0, [0, 1]), (1, [0, 1, 10]), (2, [4]), (3, [0, 1, 5]), (4, [0, 1, 5, 14]), (5, [0, 1, 5]), (6, [0, 1, 5, 25]), (7, [4]), (8, [4])], laws_eqIntS_L A A.fuel⟩
theorem laws_eqIntS_l0_ok (A : PM.Prims) (n : Nat) (a1 : List Int) (b2 : List Int) (i3 : Int) (K : Go.Exit → PM.S → PM.R) : laws_eqIntS_L A (n + 1) 0 ⟨[(0, .arr (.ints 3 .i64 a1)), (1, .arr (.ints 3 .i64 b2)), (5, .int .i64 i3)], []⟩ K = PM.roundF A cx (PM.runD A cx (laws_eqIntS_E A).inl (laws_eqIntS_E A).Γ 3) (laws_eqIntS_E A) (laws_eqIntS_L A n) 0 Go.Proofs.Try.f40 ⟨[(0, .arr (.ints 3 .i64 a1)), (1, .arr (.ints 3 .i64 b2)), (5, .int .i64 i3)], []⟩ K := by kernel_rfl
theorem laws_eqIntS_ok (A : PM.Prims) (a : List Int) (b : List Int) (k : PM.V → PM.R) : PM.pfun A cx [] (laws_eqIntS_E A) Go.Proofs.Try.f40 [.arr (.ints 3 .i64 a), .arr (.ints 3 .i64 b)] k = laws_eqIntS_f A a b (fun r0 => k (.bool r0)) := by kernel_rfl

theorem laws_eqIntS_fn : PM.FnIs Try.prog 40 Try.f40 := .of Try.func40 (by kernel_rfl) (by kernel_rfl)
theorem laws_eqIntS_g : PM.GOk Try.prog cx 40 ⟨[], laws_eqIntS_w (laws_eqIntS PM.std), none⟩ := by
  refine ⟨laws_eqIntS_fn.enter, fun _ ds k r h => ?_, fun hm => absurd rfl hm, fun _ e => (by cases e)⟩
  change laws_eqIntS_w (laws_eqIntS PM.std) ds k = some r at h
  unfold laws_eqIntS_w at h
  split at h
  · exact PM.pfun_ok (E := laws_eqIntS_E PM.std) (L := fun n => laws_eqIntS_L PM.std n) (N := PM.std.fuel) cx_ok .nil mixed .nil laws_eqIntS_fn (by kernel_rfl) ⟨rfl, fun cur σ K => by
      dsimp only [laws_eqIntS_L]
      split <;> rfl, fun n cur σ K r h => by
      dsimp only [laws_eqIntS_L] at h
      split at h
      · exact (laws_eqIntS_l0_ok PM.std n _ _ _ K).symm.trans h
      · cases h⟩
      ((laws_eqIntS_ok PM.std _ _ k).trans h)
  · cases h

abbrev laws_eqRow_T := (Int) → (Int) → (Int) → (Int) → ((Bool) → PM.R) → PM.R
noncomputable def laws_eqRow_w (c : laws_eqRow_T) (ds : List PM.V) (k : PM.V → PM.R) : PM.R :=
  match ds with
  | [.agg [.int .i64 a_Cell, .int .i64 a_Val], .agg [.int .i64 b_Cell, .int .i64 b_Val]] => c a_Cell a_Val b_Cell b_Val (fun r0 => k (.bool r0))
  | _ => none
noncomputable def laws_eqRow_f (A : PM.Prims) (a_Cell : Int) (a_Val : Int) (b_Cell : Int) (b_Val : Int) (k : (Bool) → PM.R) : PM.R :=
  bif (A.not (A.eq a_Cell b_Cell)) then
    k false
  else
    bif (A.not (A.eq a_Val b_Val)) then
      k false
    else
      k true
noncomputable def laws_eqRow (A : PM.Prims) : laws_eqRow_T := laws_eqRow_f A
noncomputable def laws_eqRow_L (A : PM.Prims) (n : Nat) : PM.Lam := fun cur σ K =>
  match cur, σ, K with
  | _, _, _ => none
noncomputable def laws_eqRow_E (A : PM.Prims) : PM.Env := ⟨[], [], [], [(0, [2, 3]), (1, [2, 3, 9]), (2, [4]), (3, [14]), (4, [4]), (5, [4])], laws_eqRow_L A A.fuel⟩
theorem laws_eqRow_ok (A : PM.Prims) (a_Cell : Int) (a_Val : Int) (b_Cell : Int) (b_Val : Int) (k : PM.V → PM.R) : PM.pfun A cx [] (laws_eqRow_E A) Go.Proofs.Try.f159 [.agg [.int .i64 a_Cell, .int .i64 a_Val], .agg [.int .i64 b_Cell, .int .i64 b_Val]] k = laws_eqRow_f A a_Cell a_Val b_Cell b_Val (fun r0 => k (.bool r0)) := by kernel_rfl

theorem laws_eqRow_fn : PM.FnIs Try.prog 159 Try.f159 := .of Try.func159 (by kernel_rfl) (by kernel_rfl)
theorem laws_eqRow_g : PM.GOk Try.prog cx 159 ⟨[], laws_eqRow_w (laws_eqRow PM.std), none⟩ := by
  refine ⟨laws_eqRow_fn.enter, fun _ ds k r h => ?_, fun hm => absurd rfl hm, fun _ e => (by cases e)⟩
  change laws_eqRow_w (laws_eqRow PM.std) ds k = some r at h
  unfold laws_eqRow_w at h
  split at h
  · exact PM.pfun_ok (E := laws_eqRow_E PM.std) (L := fun n => laws_eqRow_L PM.std n) (N := PM.std.fuel) cx_ok .nil mixed .nil laws_eqRow_fn (by kernel_rfl) ⟨rfl, fun _ _ _ => rfl, fun n cur σ K r h => by cases h⟩
      ((laws_eqRow_ok PM.std _ _ _ _ k).trans h)
  · cases h

abbrev laws_eqRowS_T := (List (List Int)) → (List (List Int)) → ((Bool) → PM.R) → PM.R
noncomputable def laws_eqRowS_w (c : laws_eqRowS_T) (ds : List PM.V) (k : PM.V → PM.R) : PM.R :=
  match ds with
  | [.arr (.vecs 161 2 a), .arr (.vecs 161 2 b)] => c a b (fun r0 => k (.bool r0))
  | _ => none
noncomputable def laws_eqRowS_l0 (A : PM.Prims) (c_159 : laws_eqRow_T) : Nat → (List (List Int)) → (List (List Int)) → (Int) → ((Bool) → PM.R) → (Unit → PM.R) → PM.R
  | 0, _, _, _, _, _ => none
  | n + 1, a1, b2, i3, kret_0, kx0_0 =>
    bif (A.lt i3 (A.vlen a1)) then
      bif (A.inb i3 (A.vlen a1)) then
        bif (A.inb i3 (A.vlen b2)) then
          c_159 (A.vget a1 i3 0) (A.vget a1 i3 1) (A.vget b2 i3 0) (A.vget b2 i3 1) (fun r4 =>
            bif (A.not r4) then
              kret_0 false
            else
              laws_eqRowS_l0 A c_159 n a1 b2 (A.add .i64 i3 1) kret_0 kx0_0)
        else
          none
      else
        none
    else
      kx0_0 ()
noncomputable def laws_eqRowS_f (A : PM.Prims) (c_159 : laws_eqRow_T) (a : List (List Int)) (b : List (List Int)) (k : (Bool) → PM.R) : PM.R :=
  bif (A.not (A.eq (A.vlen a) (A.vlen b))) then
    k false
  else
    laws_eqRowS_l0 A c_159 A.fuel a b 0 (fun t456 =>
      k t456) (fun _ =>
      k true)
noncomputable def laws_eqRowS (A : PM.Prims) : laws_eqRowS_T := laws_eqRowS_f A (laws_eqRow A)
noncomputable def laws_eqRowS_L (A : PM.Prims) (c_159 : laws_eqRow_T) (n : Nat) : PM.Lam := fun cur σ K =>
  match cur, σ, K with
  | 0, ⟨[(0, .arr (.vecs 161 2 a1)), (1, .arr (.vecs 161 2 b2)), (5, .int .i64 i3)], []⟩, K => laws_eqRowS_l0 A c_159 n a1 b2 i3 (fun t45 => K .ret ⟨[(4, .bool t45)], []⟩) (fun _ => K (.exit 0) ⟨[], []⟩)
  | _, _, _ => none
noncomputable def laws_eqRowS_E (A : PM.Prims) (c_159 : laws_eqRow_T) : PM.Env := ⟨[(159, ⟨[], laws_eqRow_w c_159, none⟩)], [], [(0, [0, 1, 5], [4])], [(0, [0, 1]), (1, [0, 1, 10]), (2, [4]), (3, [0, 1, 5]), (4, [0, 1, 5, 14]), (5, [0, 1, 5]), (6, [0, 1, 5, 26]), (7, [4]), (8, [4])], laws_eqRowS_L A c_159 A.fuel⟩
theorem laws_eqRowS_l0_ok (A : PM.Prims) (c_159 : laws_eqRow_T) (n : Nat) (a1 : List (List Int)) (b2 : List (List Int)) (i3 : Int) (K : Go.Exit → PM.S → PM.R) : laws_eqRowS_L A c_159 (n + 1) 0 ⟨[(0, .arr (.vecs 161 2 a1)), (1, .arr (.vecs 161 2 b2)), (5, .int .i64 i3)], []⟩ K = PM.roundF A cx (PM.runD A cx (laws_eqRowS_E A c_159).inl (laws_eqRowS_E A c_159).Γ 3) (laws_eqRowS_E A c_159) (laws_eqRowS_L A c_159 n) 0 Go.Proofs.Try.f66 ⟨[(0, .arr (.vecs 161 2 a1)), (1, .arr (.vecs 161 2 b2)), (5, .int .i64 i3)], []⟩ K := by kernel_rfl
theorem laws_eqRowS_ok (A : PM.Prims) (c_159 : laws_eqRow_T) (a : List (List Int)) (b : List (List Int)) (k : PM.V → PM.R) : PM.pfun A cx [] (laws_eqRowS_E A c_159) Go.Proofs.Try.f66 [.arr (.vecs 161 2 a), .arr (.vecs 161 2 b)] k = laws_eqRowS_f A c_159 a b (fun r0 => k (.bool r0)) := by kernel_rfl

theorem laws_eqRowS_fn : PM.FnIs Try.prog 66 Try.f66 := .of Try.func66 (by kernel_rfl) (by kernel_rfl)
theorem laws_eqRowS_g : PM.GOk Try.prog cx 66 ⟨[], laws_eqRowS_w (laws_eqRowS PM.std), none⟩ := by
  refine ⟨laws_eqRowS_fn.enter, fun _ ds k r h => ?_, fun hm => absurd rfl hm, fun _ e => (by cases e)⟩
  change laws_eqRowS_w (laws_eqRowS PM.std) ds k = some r at h
  unfold laws_eqRowS_w at h
  split at h
  · exact PM.pfun_ok (E := laws_eqRowS_E PM.std (laws_eqRow PM.std)) (L := fun n => laws_eqRowS_L PM.std (laws_eqRow PM.std) n) (N := PM.std.fuel) cx_ok (.cons laws_eqRow_g .nil) mixed .nil laws_eqRowS_fn (by kernel_rfl) ⟨rfl, fun cur σ K => by
      dsimp only [laws_eqRowS_L]
      split <;> rfl, fun n cur σ K r h => by
      dsimp only [laws_eqRowS_L] at h
      split at h
      · exact (laws_eqRowS_l0_ok PM.std (laws_eqRow PM.std) n _ _ _ K).symm.trans h
      · cases h⟩
      ((laws_eqRowS_ok PM.std (laws_eqRow PM.std) _ _ k).trans h)
  · cases h

abbrev laws_markIntS_T := (List Int) → (Int) → ((Int) → (List Int) → PM.R) → PM.R
noncomputable def laws_markIntS_w (c : laws_markIntS_T) (ds : List PM.V) (k : PM.V → PM.R) : PM.R :=
  match ds with
  | [.arr (.ints 3 .i64 a), .int .i64 k_] => c a k_ (fun r0 o0 => k (.tup [.int .i64 r0, .arr (.ints 3 .i64 o0)]))
  | _ => none
noncomputable def laws_markIntS_l0 (A : PM.Prims) : Nat → (Int) → (Int) → (List Int) → ((Int) → (List Int) → PM.R) → PM.R
  | 0, _, _, _, _ => none
  | n + 1, k1, i2, o03, kx0_0 =>
    bif (A.lt i2 (A.ilen o03)) then
      bif (A.inb i2 (A.ilen o03)) then
        laws_markIntS_l0 A n (A.add .i64 k1 1) (A.add .i64 i2 1) (A.iset o03 i2 k1) kx0_0
      else
        none
    else
      kx0_0 k1 o03
noncomputable def laws_markIntS_f (A : PM.Prims) (a : List Int) (k_ : Int) (k : (Int) → (List Int) → PM.R) : PM.R :=
  laws_markIntS_l0 A A.fuel k_ 0 a (fun k46 o057 =>
    k k46 o057)
noncomputable def laws_markIntS (A : PM.Prims) : laws_markIntS_T := laws_markIntS_f A
noncomputable def laws_markIntS_L (A : PM.Prims) (n : Nat) : PM.Lam := fun cur σ K =>
  match cur, σ, K with
  | 0, ⟨[(0, .sref 0), (1, .int .i64 k1), (5, .int .i64 i2)], [(0, .arr false (.ints 3 .i64 o03))]⟩, K => laws_markIntS_l0 A n k1 i2 o03 (fun k4 o05 => K (.exit 0) ⟨[(0, .sref 0), (1, .int .i64 k4)], [(0, .arr false (.ints 3 .i64 o05))]⟩)
  | _, _, _ => none
noncomputable def laws_markIntS_E (A : PM.Prims) : PM.Env := ⟨[], [], [(0, [0, 1, 5], [0, 1, 4])], [(0, [0, 1]), (1, [0, 1, 5]), (2, [0, 1, 5, 9]), (3, [0, 1, 5]), (4, [0, 1, 5]), (5, [0, 1, 5]), (6, [0, 4])], laws_markIntS_L A A.fuel⟩
theorem laws_markIntS_l0_ok (A : PM.Prims) (n : Nat) (k1 : Int) (i2 : Int) (o03 : List Int) (K : Go.Exit → PM.S → PM.R) : laws_markIntS_L A (n + 1) 0 ⟨[(0, .sref 0), (1, .int .i64 k1), (5, .int .i64 i2)], [(0, .arr false (.ints 3 .i64 o03))]⟩ K = PM.roundF A cx (PM.runD A cx (laws_markIntS_E A).inl (laws_markIntS_E A).Γ 3) (laws_markIntS_E A) (laws_markIntS_L A n) 0 Go.Proofs.Try.f54 ⟨[(0, .sref 0), (1, .int .i64 k1), (5, .int .i64 i2)], [(0, .arr false (.ints 3 .i64 o03))]⟩ K := by kernel_rfl
theorem laws_markIntS_ok (A : PM.Prims) (a : List Int) (k_ : Int) (k : PM.V → PM.R) : PM.pfun A cx [true, false] (laws_markIntS_E A) Go.Proofs.Try.f54 [.arr (.ints 3 .i64 a), .int .i64 k_] k = laws_markIntS_f A a k_ (fun r0 o0 => k (.tup [.int .i64 r0, .arr (.ints 3 .i64 o0)])) := by kernel_rfl

theorem laws_markIntS_fn : PM.FnIs Try.prog 54 Try.f54 := .of Try.func54 (by kernel_rfl) (by kernel_rfl)
theorem laws_markIntS_g : PM.GOk Try.prog cx 54 ⟨[true, false], laws_markIntS_w (laws_markIntS PM.std), none⟩ := by
  refine ⟨laws_markIntS_fn.enter, fun hm => (by cases hm), fun _ ds k r h => ?_, fun _ e => (by cases e)⟩
  change laws_markIntS_w (laws_markIntS PM.std) ds k = some r at h
  unfold laws_markIntS_w at h
  split at h
  · exact PM.pfun_okM (List.cons_ne_nil _ _) (E := laws_markIntS_E PM.std) (L := fun n => laws_markIntS_L PM.std n) (N := PM.std.fuel) cx_ok .nil mixed .nil laws_markIntS_fn (by kernel_rfl) ⟨rfl, fun cur σ K => by
      dsimp only [laws_markIntS_L]
      split <;> rfl, fun n cur σ K r h => by
      dsimp only [laws_markIntS_L] at h
      split at h
      · exact (laws_markIntS_l0_ok PM.std n _ _ _ K).symm.trans h
      · cases h⟩
      ((laws_markIntS_ok PM.std _ _ k).trans h)
  · cases h

abbrev laws_heldIntS_T := (List Int) → (Int) → ((Int) → PM.R) → PM.R
noncomputable def laws_heldIntS_w (c : laws_heldIntS_T) (ds : List PM.V) (k : PM.V → PM.R) : PM.R :=
  match ds with
  | [.arr (.ints 3 .i64 a), .int .i64 k_] => c a k_ (fun r0 => k (.int .i64 r0))
  | _ => none
noncomputable def laws_heldIntS_l0 (A : PM.Prims) : Nat → (List Int) → (Int) → (Int) → ((Int) → PM.R) → ((Int) → PM.R) → PM.R
  | 0, _, _, _, _, _ => none
  | n + 1, a1, k2, i3, kret_0, kx0_0 =>
    bif (A.lt i3 (A.ilen a1)) then
      bif (A.inb i3 (A.ilen a1)) then
        bif (A.not (A.eq (A.iget a1 i3) k2)) then
          kret_0 (-1)
        else
          laws_heldIntS_l0 A n a1 (A.add .i64 k2 1) (A.add .i64 i3 1) kret_0 kx0_0
      else
        none
    else
      kx0_0 k2
noncomputable def laws_heldIntS_f (A : PM.Prims) (a : List Int) (k_ : Int) (k : (Int) → PM.R) : PM.R :=
  laws_heldIntS_l0 A A.fuel a k_ 0 (fun t446 =>
    k t446) (fun k57 =>
    k k57)
noncomputable def laws_heldIntS (A : PM.Prims) : laws_heldIntS_T := laws_heldIntS_f A
noncomputable def laws_heldIntS_L (A : PM.Prims) (n : Nat) : PM.Lam := fun cur σ K =>
  match cur, σ, K with
  | 0, ⟨[(0, .arr (.ints 3 .i64 a1)), (1, .int .i64 k2), (5, .int .i64 i3)], []⟩, K => laws_heldIntS_l0 A n a1 k2 i3 (fun t44 => K .ret ⟨[(4, .int .i64 t44)], []⟩) (fun k5 => K (.exit 0) ⟨[(1, .int .i64 k5)], []⟩)
  | _, _, _ => none
noncomputable def laws_heldIntS_E (A : PM.Prims) : PM.Env := ⟨[], [], [(0, [0, 1, 5], [1, 4])], [(0, [0, 1]), (1, [0, 1, 5]), (2, [0, 1, 5, 9]), (3, [0, 1, 5]), (4, [0, 1, 5, 17]), (5, [4]), (6, [0, 1, 5]), (7, [4])], laws_heldIntS_L A A.fuel⟩
theorem laws_heldIntS_l0_ok (A : PM.Prims) (n : Nat) (a1 : List Int) (k2 : Int) (i3 : Int) (K : Go.Exit → PM.S → PM.R) : laws_heldIntS_L A (n + 1) 0 ⟨[(0, .arr (.ints 3 .i64 a1)), (1, .int .i64 k2), (5, .int .i64 i3)], []⟩ K = PM.roundF A cx (PM.runD A cx (laws_heldIntS_E A).inl (laws_heldIntS_E A).Γ 3) (laws_heldIntS_E A) (laws_heldIntS_L A n) 0 Go.Proofs.Try.f56 ⟨[(0, .arr (.ints 3 .i64 a1)), (1, .int .i64 k2), (5, .int .i64 i3)], []⟩ K := by kernel_rfl
theorem laws_heldIntS_ok (A : PM.Prims) (a : List Int) (k_ : Int) (k : PM.V → PM.R) : PM.pfun A cx [] (laws_heldIntS_E A) Go.Proofs.Try.f56 [.arr (.ints 3 .i64 a), .int .i64 k_] k = laws_heldIntS_f A a k_ (fun r0 => k (.int .i64 r0)) := by kernel_rfl

theorem laws_heldIntS_fn : PM.FnIs Try.prog 56 Try.f56 := .of Try.func56 (by kernel_rfl) (by kernel_rfl)
theorem laws_heldIntS_g : PM.GOk Try.prog cx 56 ⟨[], laws_heldIntS_w (laws_heldIntS PM.std), none⟩ := by
  refine ⟨laws_heldIntS_fn.enter, fun _ ds k r h => ?_, fun hm => absurd rfl hm, fun _ e => (by cases e)⟩
  change laws_heldIntS_w (laws_heldIntS PM.std) ds k = some r at h
  unfold laws_heldIntS_w at h
  split at h
  · exact PM.pfun_ok (E := laws_heldIntS_E PM.std) (L := fun n => laws_heldIntS_L PM.std n) (N := PM.std.fuel) cx_ok .nil mixed .nil laws_heldIntS_fn (by kernel_rfl) ⟨rfl, fun cur σ K => by
      dsimp only [laws_heldIntS_L]
      split <;> rfl, fun n cur σ K r h => by
      dsimp only [laws_heldIntS_L] at h
      split at h
      · exact (laws_heldIntS_l0_ok PM.std n _ _ _ K).symm.trans h
      · cases h⟩
      ((laws_heldIntS_ok PM.std _ _ k).trans h)
  · cases h

abbrev laws_szWrote_T := (Int) → (Int) → (List (List Int)) → (Int) → ((Int) → PM.R) → PM.R
noncomputable def laws_szWrote_w (c : laws_szWrote_T) (ds : List PM.V) (k : PM.V → PM.R) : PM.R :=
  match ds with
  | [.agg [.int .i64 a_Stamp, .int .i64 a_Who, .arr (.vecs 297 2 a_Puts)], .int .i64 left] => c a_Stamp a_Who a_Puts left (fun r0 => k (.int .i64 r0))
  | _ => none
noncomputable def laws_szWrote_f (A : PM.Prims) (c_147 : laws_szRowS_T) (a_Stamp : Int) (a_Who : Int) (a_Puts : List (List Int)) (left : Int) (k : (Int) → PM.R) : PM.R :=
  c_147 a_Puts left (fun r1 =>
    bif (A.lt r1 0) then
      k (-1)
    else
      k r1)
noncomputable def laws_szWrote (A : PM.Prims) : laws_szWrote_T := laws_szWrote_f A (laws_szRowS A)
noncomputable def laws_szWrote_L (A : PM.Prims) (c_147 : laws_szRowS_T) (n : Nat) : PM.Lam := fun cur σ K =>
  match cur, σ, K with
  | _, _, _ => none
noncomputable def laws_szWrote_E (A : PM.Prims) (c_147 : laws_szRowS_T) : PM.Env := ⟨[(147, ⟨[], laws_szRowS_w c_147, none⟩)], [], [], [(0, [1, 2]), (1, [1]), (2, [1, 10]), (3, [4]), (4, [4])], laws_szWrote_L A c_147 A.fuel⟩
theorem laws_szWrote_ok (A : PM.Prims) (c_147 : laws_szRowS_T) (a_Stamp : Int) (a_Who : Int) (a_Puts : List (List Int)) (left : Int) (k : PM.V → PM.R) : PM.pfun A cx [] (laws_szWrote_E A c_147) Go.Proofs.Try.f132 [.agg [.int .i64 a_Stamp, .int .i64 a_Who, .arr (.vecs 297 2 a_Puts)], .int .i64 left] k = laws_szWrote_f A c_147 a_Stamp a_Who a_Puts left (fun r0 => k (.int .i64 r0)) := by kernel_rfl

theorem laws_szWrote_fn : PM.FnIs Try.prog 132 Try.f132 := .of Try.func132 (by kernel_rfl) (by kernel_rfl)
theorem laws_szWrote_g : PM.GOk Try.prog cx 132 ⟨[], laws_szWrote_w (laws_szWrote PM.std), none⟩ := by
  refine ⟨laws_szWrote_fn.enter, fun _ ds k r h => ?_, fun hm => absurd rfl hm, fun _ e => (by cases e)⟩
  change laws_szWrote_w (laws_szWrote PM.std) ds k = some r at h
  unfold laws_szWrote_w at h
  split at h
  · exact PM.pfun_ok (E := laws_szWrote_E PM.std (laws_szRowS PM.std)) (L := fun n => laws_szWrote_L PM.std (laws_szRowS PM.std) n) (N := PM.std.fuel) cx_ok (.cons laws_szRowS_g .nil) mixed .nil laws_szWrote_fn (by kernel_rfl) ⟨rfl, fun _ _ _ => rfl, fun n cur σ K r h => by cases h⟩
      ((laws_szWrote_ok PM.std (laws_szRowS PM.std) _ _ _ _ k).trans h)
  · cases h

abbrev laws_szWroteS_T := (List (List PM.C)) → (Int) → ((Int) → PM.R) → PM.R
noncomputable def laws_szWroteS_w (c : laws_szWroteS_T) (ds : List PM.V) (k : PM.V → PM.R) : PM.R :=
  match ds with
  | [.arr (.rows 195 a), .int .i64 left] => c a left (fun r0 => k (.int .i64 r0))
  | _ => none
noncomputable def laws_szWroteS_l0 (A : PM.Prims) (c_132 : laws_szWrote_T) : Nat → (List (List C)) → (Int) → (Int) → ((Int) → PM.R) → ((Int) → PM.R) → PM.R
  | 0, _, _, _, _, _ => none
  | n + 1, a1, left2, i3, kret_0, kx0_0 =>
    bif (A.lt i3 (A.rlen a1)) then
      bif (A.inb i3 (A.rlen a1)) then
        c_132 (A.rint a1 i3 0) (A.rint a1 i3 1) (A.rsv 2 a1 i3 2) left2 (fun r4 =>
          bif (A.lt r4 0) then
            kret_0 (-1)
          else
            laws_szWroteS_l0 A c_132 n a1 r4 (A.add .i64 i3 1) kret_0 kx0_0)
      else
        none
    else
      kx0_0 left2
noncomputable def laws_szWroteS_f (A : PM.Prims) (c_132 : laws_szWrote_T) (a : List (List PM.C)) (left : Int) (k : (Int) → PM.R) : PM.R :=
  bif (A.lt (A.sub .i64 left (A.rlen a)) 0) then
    k (-1)
  else
    laws_szWroteS_l0 A c_132 A.fuel a (A.sub .i64 left (A.rlen a)) 0 (fun t457 =>
      k t457) (fun left68 =>
      k left68)
noncomputable def laws_szWroteS (A : PM.Prims) : laws_szWroteS_T := laws_szWroteS_f A (laws_szWrote A)
noncomputable def laws_szWroteS_L (A : PM.Prims) (c_132 : laws_szWrote_T) (n : Nat) : PM.Lam := fun cur σ K =>
  match cur, σ, K with
  | 0, ⟨[(0, .arr (.rows 195 a1)), (1, .int .i64 left2), (5, .int .i64 i3)], []⟩, K => laws_szWroteS_l0 A c_132 n a1 left2 i3 (fun t45 => K .ret ⟨[(4, .int .i64 t45)], []⟩) (fun left6 => K (.exit 0) ⟨[(1, .int .i64 left6)], []⟩)
  | _, _, _ => none
noncomputable def laws_szWroteS_E (A : PM.Prims) (c_132 : laws_szWrote_T) : PM.Env := ⟨[(132, ⟨[], laws_szWrote_w c_132, none⟩)], [], [(0, [0, 1, 5], [1, 4])], [(0, [0, 1]), (1, [0, 1]), (2, [0, 1, 11]), (3, [4]), (4, [0, 1, 5]), (5, [0, 1, 5, 15]), (6, [0, 1, 5]), (7, [0, 1, 5]), (8, [0, 1, 5, 25]), (9, [4]), (10, [4])], laws_szWroteS_L A c_132 A.fuel⟩
theorem laws_szWroteS_l0_ok (A : PM.Prims) (c_132 : laws_szWrote_T) (n : Nat) (a1 : List (List C)) (left2 : Int) (i3 : Int) (K : Go.Exit → PM.S → PM.R) : laws_szWroteS_L A c_132 (n + 1) 0 ⟨[(0, .arr (.rows 195 a1)), (1, .int .i64 left2), (5, .int .i64 i3)], []⟩ K = PM.roundF A cx (PM.runD A cx (laws_szWroteS_E A c_132).inl (laws_szWroteS_E A c_132).Γ 3) (laws_szWroteS_E A c_132) (laws_szWroteS_L A c_132 n) 0 Go.Proofs.Try.f42 ⟨[(0, .arr (.rows 195 a1)), (1, .int .i64 left2), (5, .int .i64 i3)], []⟩ K := by kernel_rfl
theorem laws_szWroteS_ok (A : PM.Prims) (c_132 : laws_szWrote_T) (a : List (List PM.C)) (left : Int) (k : PM.V → PM.R) : PM.pfun A cx [] (laws_szWroteS_E A c_132) Go.Proofs.Try.f42 [.arr (.rows 195 a), .int .i64 left] k = laws_szWroteS_f A c_132 a left (fun r0 => k (.int .i64 r0)) := by kernel_rfl

theorem laws_szWroteS_fn : PM.FnIs Try.prog 42 Try.f42 := .of Try.func42 (by kernel_rfl) (by kernel_rfl)
theorem laws_szWroteS_g : PM.GOk Try.prog cx 42 ⟨[], laws_szWroteS_w (laws_szWroteS PM.std), none⟩ := by
  refine ⟨laws_szWroteS_fn.enter, fun _ ds k r h => ?_, fun hm => absurd rfl hm, fun _ e => (by cases e)⟩
  change laws_szWroteS_w (laws_szWroteS PM.std) ds k = some r at h
  unfold laws_szWroteS_w at h
  split at h
  · exact PM.pfun_ok (E := laws_szWroteS_E PM.std (laws_szWrote PM.std)) (L := fun n => laws_szWroteS_L PM.std (laws_szWrote PM.std) n) (N := PM.std.fuel) cx_ok (.cons laws_szWrote_g .nil) mixed .nil laws_szWroteS_fn (by kernel_rfl) ⟨rfl, fun cur σ K => by
      dsimp only [laws_szWroteS_L]
      split <;> rfl, fun n cur σ K r h => by
      dsimp only [laws_szWroteS_L] at h
      split at h
      · exact (laws_szWroteS_l0_ok PM.std (laws_szWrote PM.std) n _ _ _ K).symm.trans h
      · cases h⟩
      ((laws_szWroteS_ok PM.std (laws_szWrote PM.std) _ _ k).trans h)
  · cases h

abbrev laws_toWrote_T := (Int) → (Int) → (List (List Int)) → ((Int) → (Int) → (List (List Int)) → PM.R) → PM.R
noncomputable def laws_toWrote_w (c : laws_toWrote_T) (ds : List PM.V) (k : PM.V → PM.R) : PM.R :=
  match ds with
  | [.agg [.int .i64 a_Stamp, .int .i64 a_Who, .arr (.vecs 297 2 a_Puts)]] => c a_Stamp a_Who a_Puts (fun r0_Stamp r0_Who r0_Puts => k (.agg [.int .i64 r0_Stamp, .int .i64 r0_Who, .arr (.vecs 161 2 r0_Puts)]))
  | _ => none
noncomputable def laws_toWrote_f (A : PM.Prims) (c_150 : laws_toRowS_T) (a_Stamp : Int) (a_Who : Int) (a_Puts : List (List Int)) (k : (Int) → (Int) → (List (List Int)) → PM.R) : PM.R :=
  c_150 a_Puts (fun r1 =>
    k a_Stamp a_Who r1)
noncomputable def laws_toWrote (A : PM.Prims) : laws_toWrote_T := laws_toWrote_f A (laws_toRowS A)
noncomputable def laws_toWrote_L (A : PM.Prims) (c_150 : laws_toRowS_T) (n : Nat) : PM.Lam := fun cur σ K =>
  match cur, σ, K with
  | _, _, _ => none
noncomputable def laws_toWrote_E (A : PM.Prims) (c_150 : laws_toRowS_T) : PM.Env := ⟨[(150, ⟨[], laws_toRowS_w c_150, none⟩)], [], [], [(0, [1, 2]), (1, [1, 2, 3]), (2, [1, 2, 3]), (3, [1, 2, 3]), (4, [2, 3]), (5, [2])], laws_toWrote_L A c_150 A.fuel⟩
theorem laws_toWrote_ok (A : PM.Prims) (c_150 : laws_toRowS_T) (a_Stamp : Int) (a_Who : Int) (a_Puts : List (List Int)) (k : PM.V → PM.R) : PM.pfun A cx [] (laws_toWrote_E A c_150) Go.Proofs.Try.f133 [.agg [.int .i64 a_Stamp, .int .i64 a_Who, .arr (.vecs 297 2 a_Puts)]] k = laws_toWrote_f A c_150 a_Stamp a_Who a_Puts (fun r0_Stamp r0_Who r0_Puts => k (.agg [.int .i64 r0_Stamp, .int .i64 r0_Who, .arr (.vecs 161 2 r0_Puts)])) := by kernel_rfl

theorem laws_toWrote_fn : PM.FnIs Try.prog 133 Try.f133 := .of Try.func133 (by kernel_rfl) (by kernel_rfl)
theorem laws_toWrote_g : PM.GOk Try.prog cx 133 ⟨[], laws_toWrote_w (laws_toWrote PM.std), none⟩ := by
  refine ⟨laws_toWrote_fn.enter, fun _ ds k r h => ?_, fun hm => absurd rfl hm, fun _ e => (by cases e)⟩
  change laws_toWrote_w (laws_toWrote PM.std) ds k = some r at h
  unfold laws_toWrote_w at h
  split at h
  · exact PM.pfun_ok (E := laws_toWrote_E PM.std (laws_toRowS PM.std)) (L := fun n => laws_toWrote_L PM.std (laws_toRowS PM.std) n) (N := PM.std.fuel) cx_ok (.cons laws_toRowS_g .nil) mixed .nil laws_toWrote_fn (by kernel_rfl) ⟨rfl, fun _ _ _ => rfl, fun n cur σ K r h => by cases h⟩
      ((laws_toWrote_ok PM.std (laws_toRowS PM.std) _ _ _ k).trans h)
  · cases h

end X
