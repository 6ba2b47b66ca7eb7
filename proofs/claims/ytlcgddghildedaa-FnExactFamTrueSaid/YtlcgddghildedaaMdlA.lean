/- Models of the functions, or plain laws about them; each theorem states its own conditions. -/
import Derived.Test.YtlcgddghildedaaL3
import Derived.Test.YtlcgddghildedaaFNil
import Derived.Test.YtlcgddghildedaaQN1
import Derived.Test.YtlcgddghildedaaPlH
import Derived.Test.YtlcgddghildedaaPlB
import Derived.Test.YtlcgddghildedaaProg
import Derived.KernelRfl
set_option linter.unusedVariables false
set_option linter.unusedSimpArgs false
open Go.Proofs
namespace X
open PM
set_option maxRecDepth 100000
set_option maxHeartbeats 4000000
noncomputable def cx : PM.Cx := [
  (2, ⟨1, false, [.int .i64 0], none, 0, none, [], [], [], [.int .i64], false⟩),
  (3, ⟨1, false, [.int .i64 0], none, 0, none, [], [], [], [.int .i64], false⟩),
  (4, ⟨1, false, [.bool false], none, 0, none, [], [], [], [.bool], false⟩),
  (5, ⟨1, false, [.int .u8 0], none, 0, none, [], [], [], [.int .u8], false⟩),
  (6, ⟨1, false, [.int .u8 0], none, 0, none, [], [], [], [.int .u8], false⟩),
  (7, ⟨4, true, [.int .i64 0, .int .i64 0, .bool false, .int .u8 0], none, 0, none, [0, 1, 2, 3], [1, 1, 1, 1], [2, 3, 4, 6], [.int .i64, .int .i64, .bool, .int .u8], true⟩),
  (8, ⟨4, true, [.int .i64 0, .int .i64 0, .bool false, .int .u8 0], none, 0, none, [0, 1, 2, 3], [1, 1, 1, 1], [2, 3, 4, 6], [.int .i64, .int .i64, .bool, .int .u8], true⟩),
  (12, ⟨1, false, [.int .u64 0], none, 0, none, [], [], [], [.int .u64], false⟩),
  (21, ⟨1, false, [.int .i32 0], none, 0, none, [], [], [], [.int .i32], false⟩),
  (22, ⟨1, false, [.arr (.emp (.ints 5 .u8))], some (.ints 5 .u8), 1, none, [], [], [], [.sl 22], false⟩),
  (24, ⟨1, false, [.arr (.emp (.ints 3 .i64))], some (.ints 3 .i64), 1, none, [], [], [], [.sl 24], false⟩),
  (25, ⟨1, false, [.arr (.emp (.rows 33))], some (.rows 33), 3, none, [], [], [], [.sl 25], false⟩),
  (31, ⟨1, false, [.arr (.emp (.vecs 161 2))], some (.vecs 161 2), 2, none, [], [], [], [.sl 31], false⟩),
  (32, ⟨3, true, [.int .i64 0, .int .i64 0, .arr (.emp (.vecs 161 2))], none, 0, none, [0, 1, 2], [1, 1, 1], [3, 3, 31], [.int .i64, .int .i64, .sl 31], false⟩),
  (33, ⟨3, true, [.int .i64 0, .int .i64 0, .arr (.emp (.vecs 161 2))], none, 0, none, [0, 1, 2], [1, 1, 1], [3, 3, 31], [.int .i64, .int .i64, .sl 31], false⟩),
  (39, ⟨1, false, [.arr (.emp (.vecs 354 3))], some (.vecs 354 3), 3, none, [], [], [], [.sl 39], false⟩),
  (40, ⟨2, true, [.int .i64 0, .arr (.emp (.vecs 354 3))], none, 0, none, [0, 1], [1, 1], [3, 39], [.int .i64, .sl 39], false⟩),
  (41, ⟨2, true, [.int .i64 0, .arr (.emp (.vecs 354 3))], none, 0, none, [0, 1], [1, 1], [3, 39], [.int .i64, .sl 39], false⟩),
  (42, ⟨2, true, [.arr (.emp (.ints 3 .i64)), .int .i64 0], none, 0, none, [0, 1], [1, 1], [24, 3], [.sl 24, .int .i64], false⟩),
  (43, ⟨2, true, [.arr (.emp (.ints 3 .i64)), .int .i64 0], none, 0, none, [0, 1], [1, 1], [24, 3], [.sl 24, .int .i64], false⟩),
  (44, ⟨1, false, [.arr (.emp (.vecs 277 3))], some (.vecs 277 3), 3, none, [], [], [], [.sl 44], false⟩),
  (45, ⟨1, false, [.arr (.emp (.rows 272))], some (.rows 272), 40, none, [], [], [], [.sl 45], false⟩),
  (46, ⟨1, false, [.arr (.emp (.rows 195))], some (.rows 195), 3, none, [], [], [], [.sl 46], false⟩),
  (47, ⟨9, true, [.int .i64 0, .int .i64 0, .int .i64 0, .arr (.emp (.vecs 354 3)), .arr (.emp (.ints 3 .i64)), .int .i64 0, .arr (.emp (.vecs 277 3)), .arr (.emp (.rows 272)), .arr (.emp (.rows 195))], none, 0, none, [0, 1, 2, 4, 6, 7, 8], [1, 1, 2, 2, 1, 1, 1], [3, 3, 41, 43, 44, 45, 46], [.int .i64, .int .i64, .int .i64, .sl 39, .sl 24, .int .i64, .sl 44, .sl 45, .sl 46], false⟩),
  (48, ⟨9, true, [.int .i64 0, .int .i64 0, .int .i64 0, .arr (.emp (.vecs 354 3)), .arr (.emp (.ints 3 .i64)), .int .i64 0, .arr (.emp (.vecs 277 3)), .arr (.emp (.rows 272)), .arr (.emp (.rows 195))], none, 0, none, [0, 1, 2, 4, 6, 7, 8], [1, 1, 2, 2, 1, 1, 1], [3, 3, 41, 43, 44, 45, 46], [.int .i64, .int .i64, .int .i64, .sl 39, .sl 24, .int .i64, .sl 44, .sl 45, .sl 46], false⟩),
  (51, ⟨1, false, [.arr (.emp (.vecs 287 3))], some (.vecs 287 3), 3, none, [], [], [], [.sl 51], false⟩),
  (52, ⟨2, true, [.int .i64 0, .arr (.emp (.vecs 287 3))], none, 0, none, [0, 1], [1, 1], [3, 51], [.int .i64, .sl 51], false⟩),
  (53, ⟨2, true, [.int .i64 0, .arr (.emp (.vecs 287 3))], none, 0, none, [0, 1], [1, 1], [3, 51], [.int .i64, .sl 51], false⟩),
  (54, ⟨2, true, [.arr (.emp (.ints 3 .i64)), .int .i64 0], none, 0, none, [0, 1], [1, 1], [24, 3], [.sl 24, .int .i64], false⟩),
  (55, ⟨1, false, [.arr (.emp (.vecs 275 3))], some (.vecs 275 3), 3, none, [], [], [], [.sl 55], false⟩),
  (56, ⟨1, false, [.arr (.emp (.rows 175))], some (.rows 175), 40, none, [], [], [], [.sl 56], false⟩),
  (57, ⟨9, true, [.int .i64 0, .int .i64 0, .int .i64 0, .arr (.emp (.vecs 287 3)), .arr (.emp (.ints 3 .i64)), .int .i64 0, .arr (.emp (.vecs 275 3)), .arr (.emp (.rows 175)), .arr (.emp (.rows 33))], none, 0, none, [0, 1, 2, 4, 6, 7, 8], [1, 1, 2, 2, 1, 1, 1], [3, 3, 53, 54, 55, 56, 25], [.int .i64, .int .i64, .int .i64, .sl 51, .sl 24, .int .i64, .sl 55, .sl 56, .sl 25], false⟩),
  (58, ⟨9, true, [.int .i64 0, .int .i64 0, .int .i64 0, .arr (.emp (.vecs 287 3)), .arr (.emp (.ints 3 .i64)), .int .i64 0, .arr (.emp (.vecs 275 3)), .arr (.emp (.rows 175)), .arr (.emp (.rows 33))], none, 0, none, [0, 1, 2, 4, 6, 7, 8], [1, 1, 2, 2, 1, 1, 1], [3, 3, 53, 54, 55, 56, 25], [.int .i64, .int .i64, .int .i64, .sl 51, .sl 24, .int .i64, .sl 55, .sl 56, .sl 25], false⟩),
  (62, ⟨1, false, [.arr (.emp (.rows 285))], some (.rows 285), 18, none, [], [], [], [.sl 62], false⟩),
  (63, ⟨4, true, [.int .i64 0, .arr (.emp (.vecs 354 3)), .arr (.emp (.rows 285)), .arr (.emp (.rows 195))], none, 0, none, [0, 2, 3], [2, 1, 1], [41, 62, 46], [.int .i64, .sl 39, .sl 62, .sl 46], false⟩),
  (64, ⟨4, true, [.int .i64 0, .arr (.emp (.vecs 354 3)), .arr (.emp (.rows 285)), .arr (.emp (.rows 195))], none, 0, none, [0, 2, 3], [2, 1, 1], [41, 62, 46], [.int .i64, .sl 39, .sl 62, .sl 46], false⟩),
  (68, ⟨1, false, [.arr (.emp (.rows 189))], some (.rows 189), 18, none, [], [], [], [.sl 68], false⟩),
  (69, ⟨4, true, [.int .i64 0, .arr (.emp (.vecs 287 3)), .arr (.emp (.rows 189)), .arr (.emp (.rows 33))], none, 0, none, [0, 2, 3], [2, 1, 1], [53, 68, 25], [.int .i64, .sl 51, .sl 68, .sl 25], false⟩),
  (70, ⟨4, true, [.int .i64 0, .arr (.emp (.vecs 287 3)), .arr (.emp (.rows 189)), .arr (.emp (.rows 33))], none, 0, none, [0, 2, 3], [2, 1, 1], [53, 68, 25], [.int .i64, .sl 51, .sl 68, .sl 25], false⟩),
  (78, ⟨1, false, [.arr (.emp (.rows 203))], some (.rows 203), 2, none, [], [], [], [.sl 78], false⟩),
  (81, ⟨1, false, [.arr (.emp (.rows 205))], some (.rows 205), 2, none, [], [], [], [.sl 81], false⟩),
  (90, ⟨1, false, [.arr (.emp (.vecs 297 2))], some (.vecs 297 2), 2, none, [], [], [], [.sl 90], false⟩),
  (91, ⟨1, false, [.arr (.emp (.vecs 299 3))], some (.vecs 299 3), 3, none, [], [], [], [.sl 91], false⟩),
  (92, ⟨1, false, [.arr (.emp (.rows 295))], some (.rows 295), 15, none, [], [], [], [.sl 92], false⟩),
  (93, ⟨10, true, [.int .i64 0, .int .i64 0, .int .i64 0, .bool false, .arr (.emp (.ints 3 .i64)), .arr (.emp (.vecs 297 2)), .arr (.emp (.vecs 299 3)), .arr (.emp (.ints 3 .i64)), .arr (.emp (.vecs 297 2)), .arr (.emp (.rows 295))], none, 0, none, [0, 1, 2, 3, 4, 5, 6, 7, 8, 9], [1, 1, 1, 1, 1, 1, 1, 1, 1, 1], [3, 3, 3, 4, 24, 90, 91, 24, 90, 92], [.int .i64, .int .i64, .int .i64, .bool, .sl 24, .sl 90, .sl 91, .sl 24, .sl 90, .sl 92], false⟩),
  (94, ⟨10, true, [.int .i64 0, .int .i64 0, .int .i64 0, .bool false, .arr (.emp (.ints 3 .i64)), .arr (.emp (.vecs 297 2)), .arr (.emp (.vecs 299 3)), .arr (.emp (.ints 3 .i64)), .arr (.emp (.vecs 297 2)), .arr (.emp (.rows 295))], none, 0, none, [0, 1, 2, 3, 4, 5, 6, 7, 8, 9], [1, 1, 1, 1, 1, 1, 1, 1, 1, 1], [3, 3, 3, 4, 24, 90, 91, 24, 90, 92], [.int .i64, .int .i64, .int .i64, .bool, .sl 24, .sl 90, .sl 91, .sl 24, .sl 90, .sl 92], false⟩),
  (97, ⟨1, false, [.arr (.emp (.vecs 225 3))], some (.vecs 225 3), 3, none, [], [], [], [.sl 97], false⟩),
  (98, ⟨1, false, [.arr (.emp (.rows 214))], some (.rows 214), 15, none, [], [], [], [.sl 98], false⟩),
  (99, ⟨10, true, [.int .i64 0, .int .i64 0, .int .i64 0, .bool false, .arr (.emp (.ints 3 .i64)), .arr (.emp (.vecs 161 2)), .arr (.emp (.vecs 225 3)), .arr (.emp (.ints 3 .i64)), .arr (.emp (.vecs 161 2)), .arr (.emp (.rows 214))], none, 0, none, [0, 1, 2, 3, 4, 5, 6, 7, 8, 9], [1, 1, 1, 1, 1, 1, 1, 1, 1, 1], [3, 3, 3, 4, 24, 31, 97, 24, 31, 98], [.int .i64, .int .i64, .int .i64, .bool, .sl 24, .sl 31, .sl 97, .sl 24, .sl 31, .sl 98], false⟩),
  (100, ⟨10, true, [.int .i64 0, .int .i64 0, .int .i64 0, .bool false, .arr (.emp (.ints 3 .i64)), .arr (.emp (.vecs 161 2)), .arr (.emp (.vecs 225 3)), .arr (.emp (.ints 3 .i64)), .arr (.emp (.vecs 161 2)), .arr (.emp (.rows 214))], none, 0, none, [0, 1, 2, 3, 4, 5, 6, 7, 8, 9], [1, 1, 1, 1, 1, 1, 1, 1, 1, 1], [3, 3, 3, 4, 24, 31, 97, 24, 31, 98], [.int .i64, .int .i64, .int .i64, .bool, .sl 24, .sl 31, .sl 97, .sl 24, .sl 31, .sl 98], false⟩),
  (112, ⟨1, false, [.arr (.emp (.rows 309))], some (.rows 309), 1, none, [], [], [], [.sl 112], false⟩),
  (113, ⟨5, true, [.arr (.emp (.ints 3 .i64)), .arr (.emp (.ints 3 .i64)), .arr (.emp (.vecs 297 2)), .arr (.emp (.rows 309)), .arr (.emp (.ints 3 .i64))], none, 0, none, [0, 1, 2, 3, 4], [1, 1, 1, 1, 1], [24, 24, 90, 112, 24], [.sl 24, .sl 24, .sl 90, .sl 112, .sl 24], false⟩),
  (114, ⟨5, true, [.arr (.emp (.ints 3 .i64)), .arr (.emp (.ints 3 .i64)), .arr (.emp (.vecs 297 2)), .arr (.emp (.rows 309)), .arr (.emp (.ints 3 .i64))], none, 0, none, [0, 1, 2, 3, 4], [1, 1, 1, 1, 1], [24, 24, 90, 112, 24], [.sl 24, .sl 24, .sl 90, .sl 112, .sl 24], false⟩),
  (117, ⟨1, false, [.arr (.emp (.rows 233))], some (.rows 233), 1, none, [], [], [], [.sl 117], false⟩),
  (118, ⟨5, true, [.arr (.emp (.ints 3 .i64)), .arr (.emp (.ints 3 .i64)), .arr (.emp (.vecs 161 2)), .arr (.emp (.rows 233)), .arr (.emp (.ints 3 .i64))], none, 0, none, [0, 1, 2, 3, 4], [1, 1, 1, 1, 1], [24, 24, 31, 117, 24], [.sl 24, .sl 24, .sl 31, .sl 117, .sl 24], false⟩),
  (119, ⟨5, true, [.arr (.emp (.ints 3 .i64)), .arr (.emp (.ints 3 .i64)), .arr (.emp (.vecs 161 2)), .arr (.emp (.rows 233)), .arr (.emp (.ints 3 .i64))], none, 0, none, [0, 1, 2, 3, 4], [1, 1, 1, 1, 1], [24, 24, 31, 117, 24], [.sl 24, .sl 24, .sl 31, .sl 117, .sl 24], false⟩),
  (127, ⟨3, true, [.arr (.emp (.ints 3 .i64)), .arr (.emp (.ints 3 .i64)), .int .i64 0], none, 0, none, [0, 1, 2], [1, 1, 1], [24, 24, 3], [.sl 24, .sl 24, .int .i64], false⟩),
  (128, ⟨3, true, [.arr (.emp (.ints 3 .i64)), .arr (.emp (.ints 3 .i64)), .int .i64 0], none, 0, none, [0, 1, 2], [1, 1, 1], [24, 24, 3], [.sl 24, .sl 24, .int .i64], false⟩),
  (129, ⟨1, false, [.arr (.emp (.rows 317))], some (.rows 317), 2, none, [], [], [], [.sl 129], false⟩),
  (130, ⟨1, false, [.arr (.emp (.vecs 322 3))], some (.vecs 322 3), 3, none, [], [], [], [.sl 130], false⟩),
  (131, ⟨5, true, [.arr (.emp (.ints 3 .i64)), .arr (.emp (.ints 3 .i64)), .int .i64 0, .arr (.emp (.rows 317)), .arr (.emp (.vecs 322 3))], none, 0, none, [0, 3, 4], [3, 1, 1], [128, 129, 130], [.sl 24, .sl 24, .int .i64, .sl 129, .sl 130], false⟩),
  (132, ⟨5, true, [.arr (.emp (.ints 3 .i64)), .arr (.emp (.ints 3 .i64)), .int .i64 0, .arr (.emp (.rows 317)), .arr (.emp (.vecs 322 3))], none, 0, none, [0, 3, 4], [3, 1, 1], [128, 129, 130], [.sl 24, .sl 24, .int .i64, .sl 129, .sl 130], false⟩),
  (135, ⟨3, true, [.arr (.emp (.ints 3 .i64)), .arr (.emp (.ints 3 .i64)), .int .i64 0], none, 0, none, [0, 1, 2], [1, 1, 1], [24, 24, 3], [.sl 24, .sl 24, .int .i64], false⟩),
  (136, ⟨1, false, [.arr (.emp (.rows 242))], some (.rows 242), 2, none, [], [], [], [.sl 136], false⟩),
  (137, ⟨1, false, [.arr (.emp (.vecs 320 3))], some (.vecs 320 3), 3, none, [], [], [], [.sl 137], false⟩),
  (138, ⟨5, true, [.arr (.emp (.ints 3 .i64)), .arr (.emp (.ints 3 .i64)), .int .i64 0, .arr (.emp (.rows 242)), .arr (.emp (.vecs 320 3))], none, 0, none, [0, 3, 4], [3, 1, 1], [135, 136, 137], [.sl 24, .sl 24, .int .i64, .sl 136, .sl 137], false⟩),
  (139, ⟨5, true, [.arr (.emp (.ints 3 .i64)), .arr (.emp (.ints 3 .i64)), .int .i64 0, .arr (.emp (.rows 242)), .arr (.emp (.vecs 320 3))], none, 0, none, [0, 3, 4], [3, 1, 1], [135, 136, 137], [.sl 24, .sl 24, .int .i64, .sl 136, .sl 137], false⟩),
  (160, ⟨2, true, [.int .i64 0, .int .i64 0], none, 0, none, [0, 1], [1, 1], [3, 3], [.int .i64, .int .i64], true⟩),
  (161, ⟨2, true, [.int .i64 0, .int .i64 0], none, 0, none, [0, 1], [1, 1], [3, 3], [.int .i64, .int .i64], true⟩),
  (168, ⟨1, false, [.arr (.emp (.rows 396))], some (.rows 396), 5, none, [], [], [], [.sl 168], false⟩),
  (169, ⟨1, false, [.arr (.emp (.vecs 399 3))], some (.vecs 399 3), 3, none, [], [], [], [.sl 169], false⟩),
  (170, ⟨4, true, [.int .i64 0, .int .i64 0, .int .i64 0, .int .i64 0], none, 0, none, [0, 1, 2, 3], [1, 1, 1, 1], [3, 3, 3, 3], [.int .i64, .int .i64, .int .i64, .int .i64], true⟩),
  (171, ⟨4, true, [.int .i64 0, .int .i64 0, .int .i64 0, .int .i64 0], none, 0, none, [0, 1, 2, 3], [1, 1, 1, 1], [3, 3, 3, 3], [.int .i64, .int .i64, .int .i64, .int .i64], true⟩),
  (172, ⟨7, true, [.int .i64 0, .int .i64 0, .int .i64 0, .int .i64 0, .int .i64 0, .arr (.emp (.vecs 161 2)), .arr (.emp (.ints 3 .i64))], none, 0, none, [0, 1, 2, 3, 4, 5, 6], [1, 1, 1, 1, 1, 1, 1], [3, 3, 3, 3, 3, 31, 24], [.int .i64, .int .i64, .int .i64, .int .i64, .int .i64, .sl 31, .sl 24], false⟩),
  (173, ⟨7, true, [.int .i64 0, .int .i64 0, .int .i64 0, .int .i64 0, .int .i64 0, .arr (.emp (.vecs 161 2)), .arr (.emp (.ints 3 .i64))], none, 0, none, [0, 1, 2, 3, 4, 5, 6], [1, 1, 1, 1, 1, 1, 1], [3, 3, 3, 3, 3, 31, 24], [.int .i64, .int .i64, .int .i64, .int .i64, .int .i64, .sl 31, .sl 24], false⟩),
  (174, ⟨40, true, [.int .i64 0, .int .i64 0, .int .i64 0, .int .i64 0, .int .i64 0, .int .i64 0, .int .i64 0, .int .i64 0, .int .i64 0, .int .i64 0, .int .i64 0, .bool false, .arr (.emp (.ints 3 .i64)), .arr (.emp (.vecs 161 2)), .arr (.emp (.vecs 161 2)), .arr (.emp (.rows 396)), .arr (.emp (.vecs 399 3)), .arr (.emp (.ints 3 .i64)), .bool false, .int .i64 0, .int .i64 0, .int .i64 0, .int .i64 0, .int .i64 0, .int .i64 0, .int .i64 0, .int .i64 0, .int .i64 0, .arr (.emp (.vecs 161 2)), .arr (.emp (.ints 3 .i64)), .int .i64 0, .int .i64 0, .int .i64 0, .bool false, .arr (.emp (.ints 3 .i64)), .arr (.emp (.vecs 161 2)), .arr (.emp (.vecs 225 3)), .arr (.emp (.ints 3 .i64)), .arr (.emp (.vecs 161 2)), .arr (.emp (.rows 214))], none, 0, none, [0, 1, 2, 3, 4, 5, 6, 7, 8, 9, 10, 11, 12, 13, 14, 15, 16, 17, 18, 19, 23, 30], [1, 1, 1, 1, 1, 1, 1, 1, 1, 1, 1, 1, 1, 1, 1, 1, 1, 1, 1, 4, 7, 10], [3, 3, 3, 3, 3, 3, 3, 3, 3, 3, 3, 4, 24, 31, 31, 168, 169, 24, 4, 171, 173, 100], [.int .i64, .int .i64, .int .i64, .int .i64, .int .i64, .int .i64, .int .i64, .int .i64, .int .i64, .int .i64, .int .i64, .bool, .sl 24, .sl 31, .sl 31, .sl 168, .sl 169, .sl 24, .bool, .int .i64, .int .i64, .int .i64, .int .i64, .int .i64, .int .i64, .int .i64, .int .i64, .int .i64, .sl 31, .sl 24, .int .i64, .int .i64, .int .i64, .bool, .sl 24, .sl 31, .sl 97, .sl 24, .sl 31, .sl 98], false⟩),
  (175, ⟨40, true, [.int .i64 0, .int .i64 0, .int .i64 0, .int .i64 0, .int .i64 0, .int .i64 0, .int .i64 0, .int .i64 0, .int .i64 0, .int .i64 0, .int .i64 0, .bool false, .arr (.emp (.ints 3 .i64)), .arr (.emp (.vecs 161 2)), .arr (.emp (.vecs 161 2)), .arr (.emp (.rows 396)), .arr (.emp (.vecs 399 3)), .arr (.emp (.ints 3 .i64)), .bool false, .int .i64 0, .int .i64 0, .int .i64 0, .int .i64 0, .int .i64 0, .int .i64 0, .int .i64 0, .int .i64 0, .int .i64 0, .arr (.emp (.vecs 161 2)), .arr (.emp (.ints 3 .i64)), .int .i64 0, .int .i64 0, .int .i64 0, .bool false, .arr (.emp (.ints 3 .i64)), .arr (.emp (.vecs 161 2)), .arr (.emp (.vecs 225 3)), .arr (.emp (.ints 3 .i64)), .arr (.emp (.vecs 161 2)), .arr (.emp (.rows 214))], none, 0, none, [0, 1, 2, 3, 4, 5, 6, 7, 8, 9, 10, 11, 12, 13, 14, 15, 16, 17, 18, 19, 23, 30], [1, 1, 1, 1, 1, 1, 1, 1, 1, 1, 1, 1, 1, 1, 1, 1, 1, 1, 1, 4, 7, 10], [3, 3, 3, 3, 3, 3, 3, 3, 3, 3, 3, 4, 24, 31, 31, 168, 169, 24, 4, 171, 173, 100], [.int .i64, .int .i64, .int .i64, .int .i64, .int .i64, .int .i64, .int .i64, .int .i64, .int .i64, .int .i64, .int .i64, .bool, .sl 24, .sl 31, .sl 31, .sl 168, .sl 169, .sl 24, .bool, .int .i64, .int .i64, .int .i64, .int .i64, .int .i64, .int .i64, .int .i64, .int .i64, .int .i64, .sl 31, .sl 24, .int .i64, .int .i64, .int .i64, .bool, .sl 24, .sl 31, .sl 97, .sl 24, .sl 31, .sl 98], false⟩),
  (188, ⟨18, true, [.int .i64 0, .int .i64 0, .int .i64 0, .int .i64 0, .int .i64 0, .arr (.emp (.vecs 161 2)), .bool false, .int .i64 0, .int .i64 0, .int .i64 0, .int .i64 0, .int .i64 0, .int .i64 0, .int .i64 0, .int .i64 0, .int .i64 0, .arr (.emp (.vecs 161 2)), .arr (.emp (.ints 3 .i64))], none, 0, none, [0, 1, 2, 3, 4, 5, 6, 7, 11], [1, 1, 1, 1, 1, 1, 1, 4, 7], [3, 3, 3, 3, 3, 31, 4, 171, 173], [.int .i64, .int .i64, .int .i64, .int .i64, .int .i64, .sl 31, .bool, .int .i64, .int .i64, .int .i64, .int .i64, .int .i64, .int .i64, .int .i64, .int .i64, .int .i64, .sl 31, .sl 24], false⟩),
  (189, ⟨18, true, [.int .i64 0, .int .i64 0, .int .i64 0, .int .i64 0, .int .i64 0, .arr (.emp (.vecs 161 2)), .bool false, .int .i64 0, .int .i64 0, .int .i64 0, .int .i64 0, .int .i64 0, .int .i64 0, .int .i64 0, .int .i64 0, .int .i64 0, .arr (.emp (.vecs 161 2)), .arr (.emp (.ints 3 .i64))], none, 0, none, [0, 1, 2, 3, 4, 5, 6, 7, 11], [1, 1, 1, 1, 1, 1, 1, 4, 7], [3, 3, 3, 3, 3, 31, 4, 171, 173], [.int .i64, .int .i64, .int .i64, .int .i64, .int .i64, .sl 31, .bool, .int .i64, .int .i64, .int .i64, .int .i64, .int .i64, .int .i64, .int .i64, .int .i64, .int .i64, .sl 31, .sl 24], false⟩),
  (194, ⟨3, true, [.int .i64 0, .int .i64 0, .arr (.emp (.vecs 297 2))], none, 0, none, [0, 1, 2], [1, 1, 1], [3, 3, 90], [.int .i64, .int .i64, .sl 90], false⟩),
  (195, ⟨3, true, [.int .i64 0, .int .i64 0, .arr (.emp (.vecs 297 2))], none, 0, none, [0, 1, 2], [1, 1, 1], [3, 3, 90], [.int .i64, .int .i64, .sl 90], false⟩),
  (202, ⟨2, true, [.arr (.emp (.ints 3 .i64)), .arr (.emp (.vecs 297 2))], none, 0, none, [0, 1], [1, 1], [24, 90], [.sl 24, .sl 90], false⟩),
  (203, ⟨2, true, [.arr (.emp (.ints 3 .i64)), .arr (.emp (.vecs 297 2))], none, 0, none, [0, 1], [1, 1], [24, 90], [.sl 24, .sl 90], false⟩),
  (204, ⟨2, true, [.arr (.emp (.ints 3 .i64)), .arr (.emp (.vecs 161 2))], none, 0, none, [0, 1], [1, 1], [24, 31], [.sl 24, .sl 31], false⟩),
  (205, ⟨2, true, [.arr (.emp (.ints 3 .i64)), .arr (.emp (.vecs 161 2))], none, 0, none, [0, 1], [1, 1], [24, 31], [.sl 24, .sl 31], false⟩),
  (212, ⟨1, false, [.arr (.emp (.rows 368))], some (.rows 368), 3, none, [], [], [], [.sl 212], false⟩),
  (213, ⟨15, true, [.int .i64 0, .int .i64 0, .int .i64 0, .int .i64 0, .int .i64 0, .int .i64 0, .arr (.emp (.ints 3 .i64)), .arr (.emp (.vecs 225 3)), .arr (.emp (.vecs 161 2)), .arr (.emp (.rows 368)), .bool false, .int .i64 0, .int .i64 0, .int .i64 0, .int .i64 0], none, 0, none, [0, 1, 2, 3, 4, 5, 6, 7, 8, 9, 10, 11], [1, 1, 1, 1, 1, 1, 1, 1, 1, 1, 1, 4], [3, 3, 3, 3, 3, 3, 24, 97, 31, 212, 4, 171], [.int .i64, .int .i64, .int .i64, .int .i64, .int .i64, .int .i64, .sl 24, .sl 97, .sl 31, .sl 212, .bool, .int .i64, .int .i64, .int .i64, .int .i64], false⟩),
  (214, ⟨15, true, [.int .i64 0, .int .i64 0, .int .i64 0, .int .i64 0, .int .i64 0, .int .i64 0, .arr (.emp (.ints 3 .i64)), .arr (.emp (.vecs 225 3)), .arr (.emp (.vecs 161 2)), .arr (.emp (.rows 368)), .bool false, .int .i64 0, .int .i64 0, .int .i64 0, .int .i64 0], none, 0, none, [0, 1, 2, 3, 4, 5, 6, 7, 8, 9, 10, 11], [1, 1, 1, 1, 1, 1, 1, 1, 1, 1, 1, 4], [3, 3, 3, 3, 3, 3, 24, 97, 31, 212, 4, 171], [.int .i64, .int .i64, .int .i64, .int .i64, .int .i64, .int .i64, .sl 24, .sl 97, .sl 31, .sl 212, .bool, .int .i64, .int .i64, .int .i64, .int .i64], false⟩),
  (224, ⟨3, true, [.int .i64 0, .int .i64 0, .int .i64 0], none, 0, none, [0, 1, 2], [1, 1, 1], [3, 3, 3], [.int .i64, .int .i64, .int .i64], true⟩),
  (225, ⟨3, true, [.int .i64 0, .int .i64 0, .int .i64 0], none, 0, none, [0, 1, 2], [1, 1, 1], [3, 3, 3], [.int .i64, .int .i64, .int .i64], true⟩),
  (231, ⟨1, false, [.arr (.emp (.vecs 312 4))], some (.vecs 312 4), 4, none, [], [], [], [.sl 231], false⟩),
  (232, ⟨1, true, [.arr (.emp (.vecs 312 4))], none, 0, none, [0], [1], [231], [.sl 231], false⟩),
  (233, ⟨1, true, [.arr (.emp (.vecs 312 4))], none, 0, none, [0], [1], [231], [.sl 231], false⟩),
  (241, ⟨2, true, [.arr (.emp (.vecs 312 4)), .arr (.emp (.rows 233))], none, 0, none, [0, 1], [1, 1], [231, 117], [.sl 231, .sl 117], false⟩),
  (242, ⟨2, true, [.arr (.emp (.vecs 312 4)), .arr (.emp (.rows 233))], none, 0, none, [0, 1], [1, 1], [231, 117], [.sl 231, .sl 117], false⟩),
  (256, ⟨3, true, [.arr (.emp (.ints 5 .u8)), .int .i64 0, .int .i64 0], none, 0, none, [0, 1, 2], [1, 1, 1], [22, 3, 3], [.sl 22, .int .i64, .int .i64], false⟩),
  (257, ⟨3, true, [.arr (.emp (.ints 5 .u8)), .int .i64 0, .int .i64 0], none, 0, none, [0, 1, 2], [1, 1, 1], [22, 3, 3], [.sl 22, .int .i64, .int .i64], false⟩),
  (262, ⟨1, false, [.int .u64 0], none, 0, none, [], [], [], [.int .u64], false⟩),
  (266, ⟨1, false, [.arr (.emp (.rows 395))], some (.rows 395), 5, none, [], [], [], [.sl 266], false⟩),
  (267, ⟨1, false, [.arr (.emp (.vecs 401 3))], some (.vecs 401 3), 3, none, [], [], [], [.sl 267], false⟩),
  (268, ⟨4, true, [.int .i64 0, .int .i64 0, .int .i64 0, .int .i64 0], none, 0, none, [0, 1, 2, 3], [1, 1, 1, 1], [3, 3, 3, 3], [.int .i64, .int .i64, .int .i64, .int .i64], true⟩),
  (269, ⟨7, true, [.int .i64 0, .int .i64 0, .int .i64 0, .int .i64 0, .int .i64 0, .arr (.emp (.vecs 297 2)), .arr (.emp (.ints 3 .i64))], none, 0, none, [0, 1, 2, 3, 4, 5, 6], [1, 1, 1, 1, 1, 1, 1], [3, 3, 3, 3, 3, 90, 24], [.int .i64, .int .i64, .int .i64, .int .i64, .int .i64, .sl 90, .sl 24], false⟩),
  (270, ⟨7, true, [.int .i64 0, .int .i64 0, .int .i64 0, .int .i64 0, .int .i64 0, .arr (.emp (.vecs 297 2)), .arr (.emp (.ints 3 .i64))], none, 0, none, [0, 1, 2, 3, 4, 5, 6], [1, 1, 1, 1, 1, 1, 1], [3, 3, 3, 3, 3, 90, 24], [.int .i64, .int .i64, .int .i64, .int .i64, .int .i64, .sl 90, .sl 24], false⟩),
  (271, ⟨40, true, [.int .i64 0, .int .i64 0, .int .i64 0, .int .i64 0, .int .i64 0, .int .i64 0, .int .i64 0, .int .i64 0, .int .i64 0, .int .i64 0, .int .i64 0, .bool false, .arr (.emp (.ints 3 .i64)), .arr (.emp (.vecs 297 2)), .arr (.emp (.vecs 297 2)), .arr (.emp (.rows 395)), .arr (.emp (.vecs 401 3)), .arr (.emp (.ints 3 .i64)), .bool false, .int .i64 0, .int .i64 0, .int .i64 0, .int .i64 0, .int .i64 0, .int .i64 0, .int .i64 0, .int .i64 0, .int .i64 0, .arr (.emp (.vecs 297 2)), .arr (.emp (.ints 3 .i64)), .int .i64 0, .int .i64 0, .int .i64 0, .bool false, .arr (.emp (.ints 3 .i64)), .arr (.emp (.vecs 297 2)), .arr (.emp (.vecs 299 3)), .arr (.emp (.ints 3 .i64)), .arr (.emp (.vecs 297 2)), .arr (.emp (.rows 295))], none, 0, none, [0, 1, 2, 3, 4, 5, 6, 7, 8, 9, 10, 11, 12, 13, 14, 15, 16, 17, 18, 19, 23, 30], [1, 1, 1, 1, 1, 1, 1, 1, 1, 1, 1, 1, 1, 1, 1, 1, 1, 1, 1, 4, 7, 10], [3, 3, 3, 3, 3, 3, 3, 3, 3, 3, 3, 4, 24, 90, 90, 266, 267, 24, 4, 268, 270, 94], [.int .i64, .int .i64, .int .i64, .int .i64, .int .i64, .int .i64, .int .i64, .int .i64, .int .i64, .int .i64, .int .i64, .bool, .sl 24, .sl 90, .sl 90, .sl 266, .sl 267, .sl 24, .bool, .int .i64, .int .i64, .int .i64, .int .i64, .int .i64, .int .i64, .int .i64, .int .i64, .int .i64, .sl 90, .sl 24, .int .i64, .int .i64, .int .i64, .bool, .sl 24, .sl 90, .sl 91, .sl 24, .sl 90, .sl 92], false⟩),
  (272, ⟨40, true, [.int .i64 0, .int .i64 0, .int .i64 0, .int .i64 0, .int .i64 0, .int .i64 0, .int .i64 0, .int .i64 0, .int .i64 0, .int .i64 0, .int .i64 0, .bool false, .arr (.emp (.ints 3 .i64)), .arr (.emp (.vecs 297 2)), .arr (.emp (.vecs 297 2)), .arr (.emp (.rows 395)), .arr (.emp (.vecs 401 3)), .arr (.emp (.ints 3 .i64)), .bool false, .int .i64 0, .int .i64 0, .int .i64 0, .int .i64 0, .int .i64 0, .int .i64 0, .int .i64 0, .int .i64 0, .int .i64 0, .arr (.emp (.vecs 297 2)), .arr (.emp (.ints 3 .i64)), .int .i64 0, .int .i64 0, .int .i64 0, .bool false, .arr (.emp (.ints 3 .i64)), .arr (.emp (.vecs 297 2)), .arr (.emp (.vecs 299 3)), .arr (.emp (.ints 3 .i64)), .arr (.emp (.vecs 297 2)), .arr (.emp (.rows 295))], none, 0, none, [0, 1, 2, 3, 4, 5, 6, 7, 8, 9, 10, 11, 12, 13, 14, 15, 16, 17, 18, 19, 23, 30], [1, 1, 1, 1, 1, 1, 1, 1, 1, 1, 1, 1, 1, 1, 1, 1, 1, 1, 1, 4, 7, 10], [3, 3, 3, 3, 3, 3, 3, 3, 3, 3, 3, 4, 24, 90, 90, 266, 267, 24, 4, 268, 270, 94], [.int .i64, .int .i64, .int .i64, .int .i64, .int .i64, .int .i64, .int .i64, .int .i64, .int .i64, .int .i64, .int .i64, .bool, .sl 24, .sl 90, .sl 90, .sl 266, .sl 267, .sl 24, .bool, .int .i64, .int .i64, .int .i64, .int .i64, .int .i64, .int .i64, .int .i64, .int .i64, .int .i64, .sl 90, .sl 24, .int .i64, .int .i64, .int .i64, .bool, .sl 24, .sl 90, .sl 91, .sl 24, .sl 90, .sl 92], false⟩),
  (274, ⟨3, true, [.int .i64 0, .int .i64 0, .int .i64 0], none, 0, none, [0, 1, 2], [1, 1, 1], [3, 3, 3], [.int .i64, .int .i64, .int .i64], true⟩),
  (275, ⟨3, true, [.int .i64 0, .int .i64 0, .int .i64 0], none, 0, none, [0, 1, 2], [1, 1, 1], [3, 3, 3], [.int .i64, .int .i64, .int .i64], true⟩),
  (277, ⟨3, true, [.int .i64 0, .int .i64 0, .int .i64 0], none, 0, none, [0, 1, 2], [1, 1, 1], [3, 3, 3], [.int .i64, .int .i64, .int .i64], true⟩),
  (284, ⟨18, true, [.int .i64 0, .int .i64 0, .int .i64 0, .int .i64 0, .int .i64 0, .arr (.emp (.vecs 297 2)), .bool false, .int .i64 0, .int .i64 0, .int .i64 0, .int .i64 0, .int .i64 0, .int .i64 0, .int .i64 0, .int .i64 0, .int .i64 0, .arr (.emp (.vecs 297 2)), .arr (.emp (.ints 3 .i64))], none, 0, none, [0, 1, 2, 3, 4, 5, 6, 7, 11], [1, 1, 1, 1, 1, 1, 1, 4, 7], [3, 3, 3, 3, 3, 90, 4, 268, 270], [.int .i64, .int .i64, .int .i64, .int .i64, .int .i64, .sl 90, .bool, .int .i64, .int .i64, .int .i64, .int .i64, .int .i64, .int .i64, .int .i64, .int .i64, .int .i64, .sl 90, .sl 24], false⟩),
  (285, ⟨18, true, [.int .i64 0, .int .i64 0, .int .i64 0, .int .i64 0, .int .i64 0, .arr (.emp (.vecs 297 2)), .bool false, .int .i64 0, .int .i64 0, .int .i64 0, .int .i64 0, .int .i64 0, .int .i64 0, .int .i64 0, .int .i64 0, .int .i64 0, .arr (.emp (.vecs 297 2)), .arr (.emp (.ints 3 .i64))], none, 0, none, [0, 1, 2, 3, 4, 5, 6, 7, 11], [1, 1, 1, 1, 1, 1, 1, 4, 7], [3, 3, 3, 3, 3, 90, 4, 268, 270], [.int .i64, .int .i64, .int .i64, .int .i64, .int .i64, .sl 90, .bool, .int .i64, .int .i64, .int .i64, .int .i64, .int .i64, .int .i64, .int .i64, .int .i64, .int .i64, .sl 90, .sl 24], false⟩),
  (286, ⟨3, true, [.int .i64 0, .int .i64 0, .int .i64 0], none, 0, none, [0, 1, 2], [1, 1, 1], [3, 3, 3], [.int .i64, .int .i64, .int .i64], true⟩),
  (287, ⟨3, true, [.int .i64 0, .int .i64 0, .int .i64 0], none, 0, none, [0, 1, 2], [1, 1, 1], [3, 3, 3], [.int .i64, .int .i64, .int .i64], true⟩),
  (293, ⟨1, false, [.arr (.emp (.rows 405))], some (.rows 405), 3, none, [], [], [], [.sl 293], false⟩),
  (294, ⟨15, true, [.int .i64 0, .int .i64 0, .int .i64 0, .int .i64 0, .int .i64 0, .int .i64 0, .arr (.emp (.ints 3 .i64)), .arr (.emp (.vecs 299 3)), .arr (.emp (.vecs 297 2)), .arr (.emp (.rows 405)), .bool false, .int .i64 0, .int .i64 0, .int .i64 0, .int .i64 0], none, 0, none, [0, 1, 2, 3, 4, 5, 6, 7, 8, 9, 10, 11], [1, 1, 1, 1, 1, 1, 1, 1, 1, 1, 1, 4], [3, 3, 3, 3, 3, 3, 24, 91, 90, 293, 4, 268], [.int .i64, .int .i64, .int .i64, .int .i64, .int .i64, .int .i64, .sl 24, .sl 91, .sl 90, .sl 293, .bool, .int .i64, .int .i64, .int .i64, .int .i64], false⟩),
  (295, ⟨15, true, [.int .i64 0, .int .i64 0, .int .i64 0, .int .i64 0, .int .i64 0, .int .i64 0, .arr (.emp (.ints 3 .i64)), .arr (.emp (.vecs 299 3)), .arr (.emp (.vecs 297 2)), .arr (.emp (.rows 405)), .bool false, .int .i64 0, .int .i64 0, .int .i64 0, .int .i64 0], none, 0, none, [0, 1, 2, 3, 4, 5, 6, 7, 8, 9, 10, 11], [1, 1, 1, 1, 1, 1, 1, 1, 1, 1, 1, 4], [3, 3, 3, 3, 3, 3, 24, 91, 90, 293, 4, 268], [.int .i64, .int .i64, .int .i64, .int .i64, .int .i64, .int .i64, .sl 24, .sl 91, .sl 90, .sl 293, .bool, .int .i64, .int .i64, .int .i64, .int .i64], false⟩),
  (297, ⟨2, true, [.int .i64 0, .int .i64 0], none, 0, none, [0, 1], [1, 1], [3, 3], [.int .i64, .int .i64], true⟩),
  (299, ⟨3, true, [.int .i64 0, .int .i64 0, .int .i64 0], none, 0, none, [0, 1, 2], [1, 1, 1], [3, 3, 3], [.int .i64, .int .i64, .int .i64], true⟩),
  (307, ⟨1, false, [.arr (.emp (.vecs 409 4))], some (.vecs 409 4), 4, none, [], [], [], [.sl 307], false⟩),
  (308, ⟨1, true, [.arr (.emp (.vecs 409 4))], none, 0, none, [0], [1], [307], [.sl 307], false⟩),
  (309, ⟨1, true, [.arr (.emp (.vecs 409 4))], none, 0, none, [0], [1], [307], [.sl 307], false⟩),
  (311, ⟨4, true, [.int .i64 0, .int .i64 0, .int .i64 0, .int .i64 0], none, 0, none, [0, 1, 2, 3], [1, 1, 1, 1], [3, 3, 3, 3], [.int .i64, .int .i64, .int .i64, .int .i64], true⟩),
  (312, ⟨4, true, [.int .i64 0, .int .i64 0, .int .i64 0, .int .i64 0], none, 0, none, [0, 1, 2, 3], [1, 1, 1, 1], [3, 3, 3, 3], [.int .i64, .int .i64, .int .i64, .int .i64], true⟩),
  (316, ⟨2, true, [.arr (.emp (.vecs 409 4)), .arr (.emp (.rows 309))], none, 0, none, [0, 1], [1, 1], [307, 112], [.sl 307, .sl 112], false⟩),
  (317, ⟨2, true, [.arr (.emp (.vecs 409 4)), .arr (.emp (.rows 309))], none, 0, none, [0, 1], [1, 1], [307, 112], [.sl 307, .sl 112], false⟩),
  (319, ⟨3, true, [.int .i64 0, .int .i64 0, .int .i64 0], none, 0, none, [0, 1, 2], [1, 1, 1], [3, 3, 3], [.int .i64, .int .i64, .int .i64], true⟩),
  (320, ⟨3, true, [.int .i64 0, .int .i64 0, .int .i64 0], none, 0, none, [0, 1, 2], [1, 1, 1], [3, 3, 3], [.int .i64, .int .i64, .int .i64], true⟩),
  (322, ⟨3, true, [.int .i64 0, .int .i64 0, .int .i64 0], none, 0, none, [0, 1, 2], [1, 1, 1], [3, 3, 3], [.int .i64, .int .i64, .int .i64], true⟩),
  (326, ⟨1, false, [.arr (.emp (.bools 4))], some (.bools 4), 1, none, [], [], [], [.sl 326], false⟩),
  (327, ⟨5, true, [.int .i64 0, .arr (.emp (.ints 3 .i64)), .arr (.emp (.ints 3 .i64)), .arr (.emp (.ints 3 .i64)), .int .i64 0], none, 0, none, [0, 1, 2], [1, 1, 3], [3, 24, 135], [.int .i64, .sl 24, .sl 24, .sl 24, .int .i64], false⟩),
  (328, ⟨5, true, [.int .i64 0, .arr (.emp (.ints 3 .i64)), .arr (.emp (.ints 3 .i64)), .arr (.emp (.ints 3 .i64)), .int .i64 0], none, 0, none, [0, 1, 2], [1, 1, 3], [3, 24, 135], [.int .i64, .sl 24, .sl 24, .sl 24, .int .i64], false⟩),
  (334, ⟨1, false, [.int .i64 0], none, 0, none, [], [], [], [.int .i64], false⟩),
  (341, ⟨1, false, [.int .u32 0], none, 0, none, [], [], [], [.int .u32], false⟩),
  (343, ⟨1, false, [.int .u64 0], none, 0, none, [], [], [], [.int .u64], false⟩),
  (354, ⟨3, true, [.int .i64 0, .int .i64 0, .int .i64 0], none, 0, none, [0, 1, 2], [1, 1, 1], [3, 3, 3], [.int .i64, .int .i64, .int .i64], true⟩),
  (367, ⟨3, true, [.int .i64 0, .int .i64 0, .arr (.emp (.ints 3 .i64))], none, 0, none, [0, 1, 2], [1, 1, 1], [3, 3, 24], [.int .i64, .int .i64, .sl 24], false⟩),
  (368, ⟨3, true, [.int .i64 0, .int .i64 0, .arr (.emp (.ints 3 .i64))], none, 0, none, [0, 1, 2], [1, 1, 1], [3, 3, 24], [.int .i64, .int .i64, .sl 24], false⟩),
  (376, ⟨1, false, [.arr (.emp (.rows 378))], some (.rows 378), 5, none, [], [], [], [.sl 376], false⟩),
  (377, ⟨5, true, [.int .i64 0, .arr (.emp (.ints 3 .i64)), .arr (.emp (.ints 3 .i64)), .arr (.emp (.ints 3 .i64)), .int .i64 0], none, 0, none, [0, 1, 2], [1, 1, 3], [3, 24, 135], [.int .i64, .sl 24, .sl 24, .sl 24, .int .i64], false⟩),
  (378, ⟨5, true, [.int .i64 0, .arr (.emp (.ints 3 .i64)), .arr (.emp (.ints 3 .i64)), .arr (.emp (.ints 3 .i64)), .int .i64 0], none, 0, none, [0, 1, 2], [1, 1, 3], [3, 24, 135], [.int .i64, .sl 24, .sl 24, .sl 24, .int .i64], false⟩),
  (380, ⟨1, false, [.arr (.emp (.rows 382))], some (.rows 382), 5, none, [], [], [], [.sl 380], false⟩),
  (381, ⟨5, true, [.int .i64 0, .arr (.emp (.ints 3 .i64)), .arr (.emp (.ints 3 .i64)), .arr (.emp (.ints 3 .i64)), .int .i64 0], none, 0, none, [0, 1, 2], [1, 1, 3], [3, 24, 135], [.int .i64, .sl 24, .sl 24, .sl 24, .int .i64], false⟩),
  (382, ⟨5, true, [.int .i64 0, .arr (.emp (.ints 3 .i64)), .arr (.emp (.ints 3 .i64)), .arr (.emp (.ints 3 .i64)), .int .i64 0], none, 0, none, [0, 1, 2], [1, 1, 3], [3, 24, 135], [.int .i64, .sl 24, .sl 24, .sl 24, .int .i64], false⟩),
  (385, ⟨1, false, [.int .u64 0], none, 0, none, [], [], [], [.int .u64], false⟩),
  (394, ⟨5, true, [.int .i64 0, .int .i64 0, .int .i64 0, .int .i64 0, .arr (.emp (.ints 3 .i64))], none, 0, none, [0, 1, 2, 3, 4], [1, 1, 1, 1, 1], [3, 3, 3, 3, 24], [.int .i64, .int .i64, .int .i64, .int .i64, .sl 24], false⟩),
  (395, ⟨5, true, [.int .i64 0, .int .i64 0, .int .i64 0, .int .i64 0, .arr (.emp (.ints 3 .i64))], none, 0, none, [0, 1, 2, 3, 4], [1, 1, 1, 1, 1], [3, 3, 3, 3, 24], [.int .i64, .int .i64, .int .i64, .int .i64, .sl 24], false⟩),
  (396, ⟨5, true, [.int .i64 0, .int .i64 0, .int .i64 0, .int .i64 0, .arr (.emp (.ints 3 .i64))], none, 0, none, [0, 1, 2, 3, 4], [1, 1, 1, 1, 1], [3, 3, 3, 3, 24], [.int .i64, .int .i64, .int .i64, .int .i64, .sl 24], false⟩),
  (398, ⟨3, true, [.int .i64 0, .int .i64 0, .int .i64 0], none, 0, none, [0, 1, 2], [1, 1, 1], [3, 3, 3], [.int .i64, .int .i64, .int .i64], true⟩),
  (399, ⟨3, true, [.int .i64 0, .int .i64 0, .int .i64 0], none, 0, none, [0, 1, 2], [1, 1, 1], [3, 3, 3], [.int .i64, .int .i64, .int .i64], true⟩),
  (401, ⟨3, true, [.int .i64 0, .int .i64 0, .int .i64 0], none, 0, none, [0, 1, 2], [1, 1, 1], [3, 3, 3], [.int .i64, .int .i64, .int .i64], true⟩),
  (405, ⟨3, true, [.int .i64 0, .int .i64 0, .arr (.emp (.ints 3 .i64))], none, 0, none, [0, 1, 2], [1, 1, 1], [3, 3, 24], [.int .i64, .int .i64, .sl 24], false⟩),
  (409, ⟨4, true, [.int .i64 0, .int .i64 0, .int .i64 0, .int .i64 0], none, 0, none, [0, 1, 2, 3], [1, 1, 1, 1], [3, 3, 3, 3], [.int .i64, .int .i64, .int .i64, .int .i64], true⟩),
  (423, ⟨1, false, [.int .u8 0], none, 0, none, [], [], [], [.int .u8], false⟩),
  (424, ⟨1, false, [.int .u8 0], none, 0, none, [], [], [], [.int .u8], false⟩),
  (427, ⟨1, false, [.int .i32 0], none, 0, none, [], [], [], [.int .i32], false⟩),
  (428, ⟨1, false, [.int .i32 0], none, 0, none, [], [], [], [.int .i32], false⟩)]
theorem mixed : Try.prog.follows .mixedOrders = true := by kernel_rfl
theorem cx_ok : PM.CxOk Try.prog cx := PM.cxChk_ok (by kernel_rfl)
theorem cx_read : PM.CxRead Try.prog cx := PM.cxRead_ok (by kernel_rfl)

theorem cx_at2 : PM.find cx 2 = some ⟨1, false, [.int .i64 0], none, 0, none, [], [], [], [.int .i64], false⟩ := by kernel_rfl
theorem cx_at3 : PM.find cx 3 = some ⟨1, false, [.int .i64 0], none, 0, none, [], [], [], [.int .i64], false⟩ := by kernel_rfl
theorem cx_at4 : PM.find cx 4 = some ⟨1, false, [.bool false], none, 0, none, [], [], [], [.bool], false⟩ := by kernel_rfl
theorem cx_at5 : PM.find cx 5 = some ⟨1, false, [.int .u8 0], none, 0, none, [], [], [], [.int .u8], false⟩ := by kernel_rfl
theorem cx_at6 : PM.find cx 6 = some ⟨1, false, [.int .u8 0], none, 0, none, [], [], [], [.int .u8], false⟩ := by kernel_rfl
theorem cx_at7 : PM.find cx 7 = some ⟨4, true, [.int .i64 0, .int .i64 0, .bool false, .int .u8 0], none, 0, none, [0, 1, 2, 3], [1, 1, 1, 1], [2, 3, 4, 6], [.int .i64, .int .i64, .bool, .int .u8], true⟩ := by kernel_rfl
theorem cx_at8 : PM.find cx 8 = some ⟨4, true, [.int .i64 0, .int .i64 0, .bool false, .int .u8 0], none, 0, none, [0, 1, 2, 3], [1, 1, 1, 1], [2, 3, 4, 6], [.int .i64, .int .i64, .bool, .int .u8], true⟩ := by kernel_rfl
theorem cx_at12 : PM.find cx 12 = some ⟨1, false, [.int .u64 0], none, 0, none, [], [], [], [.int .u64], false⟩ := by kernel_rfl
theorem cx_at21 : PM.find cx 21 = some ⟨1, false, [.int .i32 0], none, 0, none, [], [], [], [.int .i32], false⟩ := by kernel_rfl
theorem cx_at22 : PM.find cx 22 = some ⟨1, false, [.arr (.emp (.ints 5 .u8))], some (.ints 5 .u8), 1, none, [], [], [], [.sl 22], false⟩ := by kernel_rfl
theorem cx_at24 : PM.find cx 24 = some ⟨1, false, [.arr (.emp (.ints 3 .i64))], some (.ints 3 .i64), 1, none, [], [], [], [.sl 24], false⟩ := by kernel_rfl
theorem cx_at25 : PM.find cx 25 = some ⟨1, false, [.arr (.emp (.rows 33))], some (.rows 33), 3, none, [], [], [], [.sl 25], false⟩ := by kernel_rfl
theorem cx_at31 : PM.find cx 31 = some ⟨1, false, [.arr (.emp (.vecs 161 2))], some (.vecs 161 2), 2, none, [], [], [], [.sl 31], false⟩ := by kernel_rfl
theorem cx_at32 : PM.find cx 32 = some ⟨3, true, [.int .i64 0, .int .i64 0, .arr (.emp (.vecs 161 2))], none, 0, none, [0, 1, 2], [1, 1, 1], [3, 3, 31], [.int .i64, .int .i64, .sl 31], false⟩ := by kernel_rfl
theorem cx_at33 : PM.find cx 33 = some ⟨3, true, [.int .i64 0, .int .i64 0, .arr (.emp (.vecs 161 2))], none, 0, none, [0, 1, 2], [1, 1, 1], [3, 3, 31], [.int .i64, .int .i64, .sl 31], false⟩ := by kernel_rfl
theorem cx_at39 : PM.find cx 39 = some ⟨1, false, [.arr (.emp (.vecs 354 3))], some (.vecs 354 3), 3, none, [], [], [], [.sl 39], false⟩ := by kernel_rfl
theorem cx_at40 : PM.find cx 40 = some ⟨2, true, [.int .i64 0, .arr (.emp (.vecs 354 3))], none, 0, none, [0, 1], [1, 1], [3, 39], [.int .i64, .sl 39], false⟩ := by kernel_rfl
theorem cx_at41 : PM.find cx 41 = some ⟨2, true, [.int .i64 0, .arr (.emp (.vecs 354 3))], none, 0, none, [0, 1], [1, 1], [3, 39], [.int .i64, .sl 39], false⟩ := by kernel_rfl
theorem cx_at42 : PM.find cx 42 = some ⟨2, true, [.arr (.emp (.ints 3 .i64)), .int .i64 0], none, 0, none, [0, 1], [1, 1], [24, 3], [.sl 24, .int .i64], false⟩ := by kernel_rfl
theorem cx_at43 : PM.find cx 43 = some ⟨2, true, [.arr (.emp (.ints 3 .i64)), .int .i64 0], none, 0, none, [0, 1], [1, 1], [24, 3], [.sl 24, .int .i64], false⟩ := by kernel_rfl
theorem cx_at44 : PM.find cx 44 = some ⟨1, false, [.arr (.emp (.vecs 277 3))], some (.vecs 277 3), 3, none, [], [], [], [.sl 44], false⟩ := by kernel_rfl
theorem cx_at45 : PM.find cx 45 = some ⟨1, false, [.arr (.emp (.rows 272))], some (.rows 272), 40, none, [], [], [], [.sl 45], false⟩ := by kernel_rfl
theorem cx_at46 : PM.find cx 46 = some ⟨1, false, [.arr (.emp (.rows 195))], some (.rows 195), 3, none, [], [], [], [.sl 46], false⟩ := by kernel_rfl
theorem cx_at47 : PM.find cx 47 = some ⟨9, true, [.int .i64 0, .int .i64 0, .int .i64 0, .arr (.emp (.vecs 354 3)), .arr (.emp (.ints 3 .i64)), .int .i64 0, .arr (.emp (.vecs 277 3)), .arr (.emp (.rows 272)), .arr (.emp (.rows 195))], none, 0, none, [0, 1, 2, 4, 6, 7, 8], [1, 1, 2, 2, 1, 1, 1], [3, 3, 41, 43, 44, 45, 46], [.int .i64, .int .i64, .int .i64, .sl 39, .sl 24, .int .i64, .sl 44, .sl 45, .sl 46], false⟩ := by kernel_rfl
theorem cx_at48 : PM.find cx 48 = some ⟨9, true, [.int .i64 0, .int .i64 0, .int .i64 0, .arr (.emp (.vecs 354 3)), .arr (.emp (.ints 3 .i64)), .int .i64 0, .arr (.emp (.vecs 277 3)), .arr (.emp (.rows 272)), .arr (.emp (.rows 195))], none, 0, none, [0, 1, 2, 4, 6, 7, 8], [1, 1, 2, 2, 1, 1, 1], [3, 3, 41, 43, 44, 45, 46], [.int .i64, .int .i64, .int .i64, .sl 39, .sl 24, .int .i64, .sl 44, .sl 45, .sl 46], false⟩ := by kernel_rfl
theorem cx_at51 : PM.find cx 51 = some ⟨1, false, [.arr (.emp (.vecs 287 3))], some (.vecs 287 3), 3, none, [], [], [], [.sl 51], false⟩ := by kernel_rfl
theorem cx_at52 : PM.find cx 52 = some ⟨2, true, [.int .i64 0, .arr (.emp (.vecs 287 3))], none, 0, none, [0, 1], [1, 1], [3, 51], [.int .i64, .sl 51], false⟩ := by kernel_rfl
theorem cx_at53 : PM.find cx 53 = some ⟨2, true, [.int .i64 0, .arr (.emp (.vecs 287 3))], none, 0, none, [0, 1], [1, 1], [3, 51], [.int .i64, .sl 51], false⟩ := by kernel_rfl
theorem cx_at54 : PM.find cx 54 = some ⟨2, true, [.arr (.emp (.ints 3 .i64)), .int .i64 0], none, 0, none, [0, 1], [1, 1], [24, 3], [.sl 24, .int .i64], false⟩ := by kernel_rfl
theorem cx_at55 : PM.find cx 55 = some ⟨1, false, [.arr (.emp (.vecs 275 3))], some (.vecs 275 3), 3, none, [], [], [], [.sl 55], false⟩ := by kernel_rfl
theorem cx_at56 : PM.find cx 56 = some ⟨1, false, [.arr (.emp (.rows 175))], some (.rows 175), 40, none, [], [], [], [.sl 56], false⟩ := by kernel_rfl
theorem cx_at57 : PM.find cx 57 = some ⟨9, true, [.int .i64 0, .int .i64 0, .int .i64 0, .arr (.emp (.vecs 287 3)), .arr (.emp (.ints 3 .i64)), .int .i64 0, .arr (.emp (.vecs 275 3)), .arr (.emp (.rows 175)), .arr (.emp (.rows 33))], none, 0, none, [0, 1, 2, 4, 6, 7, 8], [1, 1, 2, 2, 1, 1, 1], [3, 3, 53, 54, 55, 56, 25], [.int .i64, .int .i64, .int .i64, .sl 51, .sl 24, .int .i64, .sl 55, .sl 56, .sl 25], false⟩ := by kernel_rfl
theorem cx_at58 : PM.find cx 58 = some ⟨9, true, [.int .i64 0, .int .i64 0, .int .i64 0, .arr (.emp (.vecs 287 3)), .arr (.emp (.ints 3 .i64)), .int .i64 0, .arr (.emp (.vecs 275 3)), .arr (.emp (.rows 175)), .arr (.emp (.rows 33))], none, 0, none, [0, 1, 2, 4, 6, 7, 8], [1, 1, 2, 2, 1, 1, 1], [3, 3, 53, 54, 55, 56, 25], [.int .i64, .int .i64, .int .i64, .sl 51, .sl 24, .int .i64, .sl 55, .sl 56, .sl 25], false⟩ := by kernel_rfl
theorem cx_at62 : PM.find cx 62 = some ⟨1, false, [.arr (.emp (.rows 285))], some (.rows 285), 18, none, [], [], [], [.sl 62], false⟩ := by kernel_rfl
theorem cx_at63 : PM.find cx 63 = some ⟨4, true, [.int .i64 0, .arr (.emp (.vecs 354 3)), .arr (.emp (.rows 285)), .arr (.emp (.rows 195))], none, 0, none, [0, 2, 3], [2, 1, 1], [41, 62, 46], [.int .i64, .sl 39, .sl 62, .sl 46], false⟩ := by kernel_rfl
theorem cx_at64 : PM.find cx 64 = some ⟨4, true, [.int .i64 0, .arr (.emp (.vecs 354 3)), .arr (.emp (.rows 285)), .arr (.emp (.rows 195))], none, 0, none, [0, 2, 3], [2, 1, 1], [41, 62, 46], [.int .i64, .sl 39, .sl 62, .sl 46], false⟩ := by kernel_rfl
theorem cx_at68 : PM.find cx 68 = some ⟨1, false, [.arr (.emp (.rows 189))], some (.rows 189), 18, none, [], [], [], [.sl 68], false⟩ := by kernel_rfl
theorem cx_at69 : PM.find cx 69 = some ⟨4, true, [.int .i64 0, .arr (.emp (.vecs 287 3)), .arr (.emp (.rows 189)), .arr (.emp (.rows 33))], none, 0, none, [0, 2, 3], [2, 1, 1], [53, 68, 25], [.int .i64, .sl 51, .sl 68, .sl 25], false⟩ := by kernel_rfl
theorem cx_at70 : PM.find cx 70 = some ⟨4, true, [.int .i64 0, .arr (.emp (.vecs 287 3)), .arr (.emp (.rows 189)), .arr (.emp (.rows 33))], none, 0, none, [0, 2, 3], [2, 1, 1], [53, 68, 25], [.int .i64, .sl 51, .sl 68, .sl 25], false⟩ := by kernel_rfl
theorem cx_at78 : PM.find cx 78 = some ⟨1, false, [.arr (.emp (.rows 203))], some (.rows 203), 2, none, [], [], [], [.sl 78], false⟩ := by kernel_rfl
theorem cx_at81 : PM.find cx 81 = some ⟨1, false, [.arr (.emp (.rows 205))], some (.rows 205), 2, none, [], [], [], [.sl 81], false⟩ := by kernel_rfl
theorem cx_at90 : PM.find cx 90 = some ⟨1, false, [.arr (.emp (.vecs 297 2))], some (.vecs 297 2), 2, none, [], [], [], [.sl 90], false⟩ := by kernel_rfl
theorem cx_at91 : PM.find cx 91 = some ⟨1, false, [.arr (.emp (.vecs 299 3))], some (.vecs 299 3), 3, none, [], [], [], [.sl 91], false⟩ := by kernel_rfl
theorem cx_at92 : PM.find cx 92 = some ⟨1, false, [.arr (.emp (.rows 295))], some (.rows 295), 15, none, [], [], [], [.sl 92], false⟩ := by kernel_rfl
theorem cx_at93 : PM.find cx 93 = some ⟨10, true, [.int .i64 0, .int .i64 0, .int .i64 0, .bool false, .arr (.emp (.ints 3 .i64)), .arr (.emp (.vecs 297 2)), .arr (.emp (.vecs 299 3)), .arr (.emp (.ints 3 .i64)), .arr (.emp (.vecs 297 2)), .arr (.emp (.rows 295))], none, 0, none, [0, 1, 2, 3, 4, 5, 6, 7, 8, 9], [1, 1, 1, 1, 1, 1, 1, 1, 1, 1], [3, 3, 3, 4, 24, 90, 91, 24, 90, 92], [.int .i64, .int .i64, .int .i64, .bool, .sl 24, .sl 90, .sl 91, .sl 24, .sl 90, .sl 92], false⟩ := by kernel_rfl
theorem cx_at94 : PM.find cx 94 = some ⟨10, true, [.int .i64 0, .int .i64 0, .int .i64 0, .bool false, .arr (.emp (.ints 3 .i64)), .arr (.emp (.vecs 297 2)), .arr (.emp (.vecs 299 3)), .arr (.emp (.ints 3 .i64)), .arr (.emp (.vecs 297 2)), .arr (.emp (.rows 295))], none, 0, none, [0, 1, 2, 3, 4, 5, 6, 7, 8, 9], [1, 1, 1, 1, 1, 1, 1, 1, 1, 1], [3, 3, 3, 4, 24, 90, 91, 24, 90, 92], [.int .i64, .int .i64, .int .i64, .bool, .sl 24, .sl 90, .sl 91, .sl 24, .sl 90, .sl 92], false⟩ := by kernel_rfl
theorem cx_at97 : PM.find cx 97 = some ⟨1, false, [.arr (.emp (.vecs 225 3))], some (.vecs 225 3), 3, none, [], [], [], [.sl 97], false⟩ := by kernel_rfl
theorem cx_at98 : PM.find cx 98 = some ⟨1, false, [.arr (.emp (.rows 214))], some (.rows 214), 15, none, [], [], [], [.sl 98], false⟩ := by kernel_rfl
theorem cx_at99 : PM.find cx 99 = some ⟨10, true, [.int .i64 0, .int .i64 0, .int .i64 0, .bool false, .arr (.emp (.ints 3 .i64)), .arr (.emp (.vecs 161 2)), .arr (.emp (.vecs 225 3)), .arr (.emp (.ints 3 .i64)), .arr (.emp (.vecs 161 2)), .arr (.emp (.rows 214))], none, 0, none, [0, 1, 2, 3, 4, 5, 6, 7, 8, 9], [1, 1, 1, 1, 1, 1, 1, 1, 1, 1], [3, 3, 3, 4, 24, 31, 97, 24, 31, 98], [.int .i64, .int .i64, .int .i64, .bool, .sl 24, .sl 31, .sl 97, .sl 24, .sl 31, .sl 98], false⟩ := by kernel_rfl
theorem cx_at100 : PM.find cx 100 = some ⟨10, true, [.int .i64 0, .int .i64 0, .int .i64 0, .bool false, .arr (.emp (.ints 3 .i64)), .arr (.emp (.vecs 161 2)), .arr (.emp (.vecs 225 3)), .arr (.emp (.ints 3 .i64)), .arr (.emp (.vecs 161 2)), .arr (.emp (.rows 214))], none, 0, none, [0, 1, 2, 3, 4, 5, 6, 7, 8, 9], [1, 1, 1, 1, 1, 1, 1, 1, 1, 1], [3, 3, 3, 4, 24, 31, 97, 24, 31, 98], [.int .i64, .int .i64, .int .i64, .bool, .sl 24, .sl 31, .sl 97, .sl 24, .sl 31, .sl 98], false⟩ := by kernel_rfl
theorem cx_at112 : PM.find cx 112 = some ⟨1, false, [.arr (.emp (.rows 309))], some (.rows 309), 1, none, [], [], [], [.sl 112], false⟩ := by kernel_rfl
theorem cx_at113 : PM.find cx 113 = some ⟨5, true, [.arr (.emp (.ints 3 .i64)), .arr (.emp (.ints 3 .i64)), .arr (.emp (.vecs 297 2)), .arr (.emp (.rows 309)), .arr (.emp (.ints 3 .i64))], none, 0, none, [0, 1, 2, 3, 4], [1, 1, 1, 1, 1], [24, 24, 90, 112, 24], [.sl 24, .sl 24, .sl 90, .sl 112, .sl 24], false⟩ := by kernel_rfl
theorem cx_at114 : PM.find cx 114 = some ⟨5, true, [.arr (.emp (.ints 3 .i64)), .arr (.emp (.ints 3 .i64)), .arr (.emp (.vecs 297 2)), .arr (.emp (.rows 309)), .arr (.emp (.ints 3 .i64))], none, 0, none, [0, 1, 2, 3, 4], [1, 1, 1, 1, 1], [24, 24, 90, 112, 24], [.sl 24, .sl 24, .sl 90, .sl 112, .sl 24], false⟩ := by kernel_rfl
theorem cx_at117 : PM.find cx 117 = some ⟨1, false, [.arr (.emp (.rows 233))], some (.rows 233), 1, none, [], [], [], [.sl 117], false⟩ := by kernel_rfl
theorem cx_at118 : PM.find cx 118 = some ⟨5, true, [.arr (.emp (.ints 3 .i64)), .arr (.emp (.ints 3 .i64)), .arr (.emp (.vecs 161 2)), .arr (.emp (.rows 233)), .arr (.emp (.ints 3 .i64))], none, 0, none, [0, 1, 2, 3, 4], [1, 1, 1, 1, 1], [24, 24, 31, 117, 24], [.sl 24, .sl 24, .sl 31, .sl 117, .sl 24], false⟩ := by kernel_rfl
theorem cx_at119 : PM.find cx 119 = some ⟨5, true, [.arr (.emp (.ints 3 .i64)), .arr (.emp (.ints 3 .i64)), .arr (.emp (.vecs 161 2)), .arr (.emp (.rows 233)), .arr (.emp (.ints 3 .i64))], none, 0, none, [0, 1, 2, 3, 4], [1, 1, 1, 1, 1], [24, 24, 31, 117, 24], [.sl 24, .sl 24, .sl 31, .sl 117, .sl 24], false⟩ := by kernel_rfl
theorem cx_at127 : PM.find cx 127 = some ⟨3, true, [.arr (.emp (.ints 3 .i64)), .arr (.emp (.ints 3 .i64)), .int .i64 0], none, 0, none, [0, 1, 2], [1, 1, 1], [24, 24, 3], [.sl 24, .sl 24, .int .i64], false⟩ := by kernel_rfl
theorem cx_at128 : PM.find cx 128 = some ⟨3, true, [.arr (.emp (.ints 3 .i64)), .arr (.emp (.ints 3 .i64)), .int .i64 0], none, 0, none, [0, 1, 2], [1, 1, 1], [24, 24, 3], [.sl 24, .sl 24, .int .i64], false⟩ := by kernel_rfl
theorem cx_at129 : PM.find cx 129 = some ⟨1, false, [.arr (.emp (.rows 317))], some (.rows 317), 2, none, [], [], [], [.sl 129], false⟩ := by kernel_rfl
theorem cx_at130 : PM.find cx 130 = some ⟨1, false, [.arr (.emp (.vecs 322 3))], some (.vecs 322 3), 3, none, [], [], [], [.sl 130], false⟩ := by kernel_rfl
theorem cx_at131 : PM.find cx 131 = some ⟨5, true, [.arr (.emp (.ints 3 .i64)), .arr (.emp (.ints 3 .i64)), .int .i64 0, .arr (.emp (.rows 317)), .arr (.emp (.vecs 322 3))], none, 0, none, [0, 3, 4], [3, 1, 1], [128, 129, 130], [.sl 24, .sl 24, .int .i64, .sl 129, .sl 130], false⟩ := by kernel_rfl
theorem cx_at132 : PM.find cx 132 = some ⟨5, true, [.arr (.emp (.ints 3 .i64)), .arr (.emp (.ints 3 .i64)), .int .i64 0, .arr (.emp (.rows 317)), .arr (.emp (.vecs 322 3))], none, 0, none, [0, 3, 4], [3, 1, 1], [128, 129, 130], [.sl 24, .sl 24, .int .i64, .sl 129, .sl 130], false⟩ := by kernel_rfl
theorem cx_at135 : PM.find cx 135 = some ⟨3, true, [.arr (.emp (.ints 3 .i64)), .arr (.emp (.ints 3 .i64)), .int .i64 0], none, 0, none, [0, 1, 2], [1, 1, 1], [24, 24, 3], [.sl 24, .sl 24, .int .i64], false⟩ := by kernel_rfl
theorem cx_at136 : PM.find cx 136 = some ⟨1, false, [.arr (.emp (.rows 242))], some (.rows 242), 2, none, [], [], [], [.sl 136], false⟩ := by kernel_rfl
theorem cx_at137 : PM.find cx 137 = some ⟨1, false, [.arr (.emp (.vecs 320 3))], some (.vecs 320 3), 3, none, [], [], [], [.sl 137], false⟩ := by kernel_rfl
theorem cx_at138 : PM.find cx 138 = some ⟨5, true, [.arr (.emp (.ints 3 .i64)), .arr (.emp (.ints 3 .i64)), .int .i64 0, .arr (.emp (.rows 242)), .arr (.emp (.vecs 320 3))], none, 0, none, [0, 3, 4], [3, 1, 1], [135, 136, 137], [.sl 24, .sl 24, .int .i64, .sl 136, .sl 137], false⟩ := by kernel_rfl
theorem cx_at139 : PM.find cx 139 = some ⟨5, true, [.arr (.emp (.ints 3 .i64)), .arr (.emp (.ints 3 .i64)), .int .i64 0, .arr (.emp (.rows 242)), .arr (.emp (.vecs 320 3))], none, 0, none, [0, 3, 4], [3, 1, 1], [135, 136, 137], [.sl 24, .sl 24, .int .i64, .sl 136, .sl 137], false⟩ := by kernel_rfl
theorem cx_at160 : PM.find cx 160 = some ⟨2, true, [.int .i64 0, .int .i64 0], none, 0, none, [0, 1], [1, 1], [3, 3], [.int .i64, .int .i64], true⟩ := by kernel_rfl
theorem cx_at161 : PM.find cx 161 = some ⟨2, true, [.int .i64 0, .int .i64 0], none, 0, none, [0, 1], [1, 1], [3, 3], [.int .i64, .int .i64], true⟩ := by kernel_rfl
theorem cx_at168 : PM.find cx 168 = some ⟨1, false, [.arr (.emp (.rows 396))], some (.rows 396), 5, none, [], [], [], [.sl 168], false⟩ := by kernel_rfl
theorem cx_at169 : PM.find cx 169 = some ⟨1, false, [.arr (.emp (.vecs 399 3))], some (.vecs 399 3), 3, none, [], [], [], [.sl 169], false⟩ := by kernel_rfl
theorem cx_at170 : PM.find cx 170 = some ⟨4, true, [.int .i64 0, .int .i64 0, .int .i64 0, .int .i64 0], none, 0, none, [0, 1, 2, 3], [1, 1, 1, 1], [3, 3, 3, 3], [.int .i64, .int .i64, .int .i64, .int .i64], true⟩ := by kernel_rfl
theorem cx_at171 : PM.find cx 171 = some ⟨4, true, [.int .i64 0, .int .i64 0, .int .i64 0, .int .i64 0], none, 0, none, [0, 1, 2, 3], [1, 1, 1, 1], [3, 3, 3, 3], [.int .i64, .int .i64, .int .i64, .int .i64], true⟩ := by kernel_rfl
theorem cx_at172 : PM.find cx 172 = some ⟨7, true, [.int .i64 0, .int .i64 0, .int .i64 0, .int .i64 0, .int .i64 0, .arr (.emp (.vecs 161 2)), .arr (.emp (.ints 3 .i64))], none, 0, none, [0, 1, 2, 3, 4, 5, 6], [1, 1, 1, 1, 1, 1, 1], [3, 3, 3, 3, 3, 31, 24], [.int .i64, .int .i64, .int .i64, .int .i64, .int .i64, .sl 31, .sl 24], false⟩ := by kernel_rfl
theorem cx_at173 : PM.find cx 173 = some ⟨7, true, [.int .i64 0, .int .i64 0, .int .i64 0, .int .i64 0, .int .i64 0, .arr (.emp (.vecs 161 2)), .arr (.emp (.ints 3 .i64))], none, 0, none, [0, 1, 2, 3, 4, 5, 6], [1, 1, 1, 1, 1, 1, 1], [3, 3, 3, 3, 3, 31, 24], [.int .i64, .int .i64, .int .i64, .int .i64, .int .i64, .sl 31, .sl 24], false⟩ := by kernel_rfl
theorem cx_at174 : PM.find cx 174 = some ⟨40, true, [.int .i64 0, .int .i64 0, .int .i64 0, .int .i64 0, .int .i64 0, .int .i64 0, .int .i64 0, .int .i64 0, .int .i64 0, .int .i64 0, .int .i64 0, .bool false, .arr (.emp (.ints 3 .i64)), .arr (.emp (.vecs 161 2)), .arr (.emp (.vecs 161 2)), .arr (.emp (.rows 396)), .arr (.emp (.vecs 399 3)), .arr (.emp (.ints 3 .i64)), .bool false, .int .i64 0, .int .i64 0, .int .i64 0, .int .i64 0, .int .i64 0, .int .i64 0, .int .i64 0, .int .i64 0, .int .i64 0, .arr (.emp (.vecs 161 2)), .arr (.emp (.ints 3 .i64)), .int .i64 0, .int .i64 0, .int .i64 0, .bool false, .arr (.emp (.ints 3 .i64)), .arr (.emp (.vecs 161 2)), .arr (.emp (.vecs 225 3)), .arr (.emp (.ints 3 .i64)), .arr (.emp (.vecs 161 2)), .arr (.emp (.rows 214))], none, 0, none, [0, 1, 2, 3, 4, 5, 6, 7, 8, 9, 10, 11, 12, 13, 14, 15, 16, 17, 18, 19, 23, 30], [1, 1, 1, 1, 1, 1, 1, 1, 1, 1, 1, 1, 1, 1, 1, 1, 1, 1, 1, 4, 7, 10], [3, 3, 3, 3, 3, 3, 3, 3, 3, 3, 3, 4, 24, 31, 31, 168, 169, 24, 4, 171, 173, 100], [.int .i64, .int .i64, .int .i64, .int .i64, .int .i64, .int .i64, .int .i64, .int .i64, .int .i64, .int .i64, .int .i64, .bool, .sl 24, .sl 31, .sl 31, .sl 168, .sl 169, .sl 24, .bool, .int .i64, .int .i64, .int .i64, .int .i64, .int .i64, .int .i64, .int .i64, .int .i64, .int .i64, .sl 31, .sl 24, .int .i64, .int .i64, .int .i64, .bool, .sl 24, .sl 31, .sl 97, .sl 24, .sl 31, .sl 98], false⟩ := by kernel_rfl
theorem cx_at175 : PM.find cx 175 = some ⟨40, true, [.int .i64 0, .int .i64 0, .int .i64 0, .int .i64 0, .int .i64 0, .int .i64 0, .int .i64 0, .int .i64 0, .int .i64 0, .int .i64 0, .int .i64 0, .bool false, .arr (.emp (.ints 3 .i64)), .arr (.emp (.vecs 161 2)), .arr (.emp (.vecs 161 2)), .arr (.emp (.rows 396)), .arr (.emp (.vecs 399 3)), .arr (.emp (.ints 3 .i64)), .bool false, .int .i64 0, .int .i64 0, .int .i64 0, .int .i64 0, .int .i64 0, .int .i64 0, .int .i64 0, .int .i64 0, .int .i64 0, .arr (.emp (.vecs 161 2)), .arr (.emp (.ints 3 .i64)), .int .i64 0, .int .i64 0, .int .i64 0, .bool false, .arr (.emp (.ints 3 .i64)), .arr (.emp (.vecs 161 2)), .arr (.emp (.vecs 225 3)), .arr (.emp (.ints 3 .i64)), .arr (.emp (.vecs 161 2)), .arr (.emp (.rows 214))], none, 0, none, [0, 1, 2, 3, 4, 5, 6, 7, 8, 9, 10, 11, 12, 13, 14, 15, 16, 17, 18, 19, 23, 30], [1, 1, 1, 1, 1, 1, 1, 1, 1, 1, 1, 1, 1, 1, 1, 1, 1, 1, 1, 4, 7, 10], [3, 3, 3, 3, 3, 3, 3, 3, 3, 3, 3, 4, 24, 31, 31, 168, 169, 24, 4, 171, 173, 100], [.int .i64, .int .i64, .int .i64, .int .i64, .int .i64, .int .i64, .int .i64, .int .i64, .int .i64, .int .i64, .int .i64, .bool, .sl 24, .sl 31, .sl 31, .sl 168, .sl 169, .sl 24, .bool, .int .i64, .int .i64, .int .i64, .int .i64, .int .i64, .int .i64, .int .i64, .int .i64, .int .i64, .sl 31, .sl 24, .int .i64, .int .i64, .int .i64, .bool, .sl 24, .sl 31, .sl 97, .sl 24, .sl 31, .sl 98], false⟩ := by kernel_rfl
theorem cx_at188 : PM.find cx 188 = some ⟨18, true, [.int .i64 0, .int .i64 0, .int .i64 0, .int .i64 0, .int .i64 0, .arr (.emp (.vecs 161 2)), .bool false, .int .i64 0, .int .i64 0, .int .i64 0, .int .i64 0, .int .i64 0, .int .i64 0, .int .i64 0, .int .i64 0, .int .i64 0, .arr (.emp (.vecs 161 2)), .arr (.emp (.ints 3 .i64))], none, 0, none, [0, 1, 2, 3, 4, 5, 6, 7, 11], [1, 1, 1, 1, 1, 1, 1, 4, 7], [3, 3, 3, 3, 3, 31, 4, 171, 173], [.int .i64, .int .i64, .int .i64, .int .i64, .int .i64, .sl 31, .bool, .int .i64, .int .i64, .int .i64, .int .i64, .int .i64, .int .i64, .int .i64, .int .i64, .int .i64, .sl 31, .sl 24], false⟩ := by kernel_rfl
theorem cx_at189 : PM.find cx 189 = some ⟨18, true, [.int .i64 0, .int .i64 0, .int .i64 0, .int .i64 0, .int .i64 0, .arr (.emp (.vecs 161 2)), .bool false, .int .i64 0, .int .i64 0, .int .i64 0, .int .i64 0, .int .i64 0, .int .i64 0, .int .i64 0, .int .i64 0, .int .i64 0, .arr (.emp (.vecs 161 2)), .arr (.emp (.ints 3 .i64))], none, 0, none, [0, 1, 2, 3, 4, 5, 6, 7, 11], [1, 1, 1, 1, 1, 1, 1, 4, 7], [3, 3, 3, 3, 3, 31, 4, 171, 173], [.int .i64, .int .i64, .int .i64, .int .i64, .int .i64, .sl 31, .bool, .int .i64, .int .i64, .int .i64, .int .i64, .int .i64, .int .i64, .int .i64, .int .i64, .int .i64, .sl 31, .sl 24], false⟩ := by kernel_rfl
theorem cx_at194 : PM.find cx 194 = some ⟨3, true, [.int .i64 0, .int .i64 0, .arr (.emp (.vecs 297 2))], none, 0, none, [0, 1, 2], [1, 1, 1], [3, 3, 90], [.int .i64, .int .i64, .sl 90], false⟩ := by kernel_rfl
theorem cx_at195 : PM.find cx 195 = some ⟨3, true, [.int .i64 0, .int .i64 0, .arr (.emp (.vecs 297 2))], none, 0, none, [0, 1, 2], [1, 1, 1], [3, 3, 90], [.int .i64, .int .i64, .sl 90], false⟩ := by kernel_rfl
theorem cx_at202 : PM.find cx 202 = some ⟨2, true, [.arr (.emp (.ints 3 .i64)), .arr (.emp (.vecs 297 2))], none, 0, none, [0, 1], [1, 1], [24, 90], [.sl 24, .sl 90], false⟩ := by kernel_rfl
theorem cx_at203 : PM.find cx 203 = some ⟨2, true, [.arr (.emp (.ints 3 .i64)), .arr (.emp (.vecs 297 2))], none, 0, none, [0, 1], [1, 1], [24, 90], [.sl 24, .sl 90], false⟩ := by kernel_rfl
theorem cx_at204 : PM.find cx 204 = some ⟨2, true, [.arr (.emp (.ints 3 .i64)), .arr (.emp (.vecs 161 2))], none, 0, none, [0, 1], [1, 1], [24, 31], [.sl 24, .sl 31], false⟩ := by kernel_rfl
theorem cx_at205 : PM.find cx 205 = some ⟨2, true, [.arr (.emp (.ints 3 .i64)), .arr (.emp (.vecs 161 2))], none, 0, none, [0, 1], [1, 1], [24, 31], [.sl 24, .sl 31], false⟩ := by kernel_rfl
theorem cx_at212 : PM.find cx 212 = some ⟨1, false, [.arr (.emp (.rows 368))], some (.rows 368), 3, none, [], [], [], [.sl 212], false⟩ := by kernel_rfl
theorem cx_at213 : PM.find cx 213 = some ⟨15, true, [.int .i64 0, .int .i64 0, .int .i64 0, .int .i64 0, .int .i64 0, .int .i64 0, .arr (.emp (.ints 3 .i64)), .arr (.emp (.vecs 225 3)), .arr (.emp (.vecs 161 2)), .arr (.emp (.rows 368)), .bool false, .int .i64 0, .int .i64 0, .int .i64 0, .int .i64 0], none, 0, none, [0, 1, 2, 3, 4, 5, 6, 7, 8, 9, 10, 11], [1, 1, 1, 1, 1, 1, 1, 1, 1, 1, 1, 4], [3, 3, 3, 3, 3, 3, 24, 97, 31, 212, 4, 171], [.int .i64, .int .i64, .int .i64, .int .i64, .int .i64, .int .i64, .sl 24, .sl 97, .sl 31, .sl 212, .bool, .int .i64, .int .i64, .int .i64, .int .i64], false⟩ := by kernel_rfl
theorem cx_at214 : PM.find cx 214 = some ⟨15, true, [.int .i64 0, .int .i64 0, .int .i64 0, .int .i64 0, .int .i64 0, .int .i64 0, .arr (.emp (.ints 3 .i64)), .arr (.emp (.vecs 225 3)), .arr (.emp (.vecs 161 2)), .arr (.emp (.rows 368)), .bool false, .int .i64 0, .int .i64 0, .int .i64 0, .int .i64 0], none, 0, none, [0, 1, 2, 3, 4, 5, 6, 7, 8, 9, 10, 11], [1, 1, 1, 1, 1, 1, 1, 1, 1, 1, 1, 4], [3, 3, 3, 3, 3, 3, 24, 97, 31, 212, 4, 171], [.int .i64, .int .i64, .int .i64, .int .i64, .int .i64, .int .i64, .sl 24, .sl 97, .sl 31, .sl 212, .bool, .int .i64, .int .i64, .int .i64, .int .i64], false⟩ := by kernel_rfl
theorem cx_at224 : PM.find cx 224 = some ⟨3, true, [.int .i64 0, .int .i64 0, .int .i64 0], none, 0, none, [0, 1, 2], [1, 1, 1], [3, 3, 3], [.int .i64, .int .i64, .int .i64], true⟩ := by kernel_rfl
theorem cx_at225 : PM.find cx 225 = some ⟨3, true, [.int .i64 0, .int .i64 0, .int .i64 0], none, 0, none, [0, 1, 2], [1, 1, 1], [3, 3, 3], [.int .i64, .int .i64, .int .i64], true⟩ := by kernel_rfl
theorem cx_at231 : PM.find cx 231 = some ⟨1, false, [.arr (.emp (.vecs 312 4))], some (.vecs 312 4), 4, none, [], [], [], [.sl 231], false⟩ := by kernel_rfl
theorem cx_at232 : PM.find cx 232 = some ⟨1, true, [.arr (.emp (.vecs 312 4))], none, 0, none, [0], [1], [231], [.sl 231], false⟩ := by kernel_rfl
theorem cx_at233 : PM.find cx 233 = some ⟨1, true, [.arr (.emp (.vecs 312 4))], none, 0, none, [0], [1], [231], [.sl 231], false⟩ := by kernel_rfl
theorem cx_at241 : PM.find cx 241 = some ⟨2, true, [.arr (.emp (.vecs 312 4)), .arr (.emp (.rows 233))], none, 0, none, [0, 1], [1, 1], [231, 117], [.sl 231, .sl 117], false⟩ := by kernel_rfl
theorem cx_at242 : PM.find cx 242 = some ⟨2, true, [.arr (.emp (.vecs 312 4)), .arr (.emp (.rows 233))], none, 0, none, [0, 1], [1, 1], [231, 117], [.sl 231, .sl 117], false⟩ := by kernel_rfl
theorem cx_at256 : PM.find cx 256 = some ⟨3, true, [.arr (.emp (.ints 5 .u8)), .int .i64 0, .int .i64 0], none, 0, none, [0, 1, 2], [1, 1, 1], [22, 3, 3], [.sl 22, .int .i64, .int .i64], false⟩ := by kernel_rfl
theorem cx_at257 : PM.find cx 257 = some ⟨3, true, [.arr (.emp (.ints 5 .u8)), .int .i64 0, .int .i64 0], none, 0, none, [0, 1, 2], [1, 1, 1], [22, 3, 3], [.sl 22, .int .i64, .int .i64], false⟩ := by kernel_rfl
theorem cx_at262 : PM.find cx 262 = some ⟨1, false, [.int .u64 0], none, 0, none, [], [], [], [.int .u64], false⟩ := by kernel_rfl
theorem cx_at266 : PM.find cx 266 = some ⟨1, false, [.arr (.emp (.rows 395))], some (.rows 395), 5, none, [], [], [], [.sl 266], false⟩ := by kernel_rfl
theorem cx_at267 : PM.find cx 267 = some ⟨1, false, [.arr (.emp (.vecs 401 3))], some (.vecs 401 3), 3, none, [], [], [], [.sl 267], false⟩ := by kernel_rfl
theorem cx_at268 : PM.find cx 268 = some ⟨4, true, [.int .i64 0, .int .i64 0, .int .i64 0, .int .i64 0], none, 0, none, [0, 1, 2, 3], [1, 1, 1, 1], [3, 3, 3, 3], [.int .i64, .int .i64, .int .i64, .int .i64], true⟩ := by kernel_rfl
theorem cx_at269 : PM.find cx 269 = some ⟨7, true, [.int .i64 0, .int .i64 0, .int .i64 0, .int .i64 0, .int .i64 0, .arr (.emp (.vecs 297 2)), .arr (.emp (.ints 3 .i64))], none, 0, none, [0, 1, 2, 3, 4, 5, 6], [1, 1, 1, 1, 1, 1, 1], [3, 3, 3, 3, 3, 90, 24], [.int .i64, .int .i64, .int .i64, .int .i64, .int .i64, .sl 90, .sl 24], false⟩ := by kernel_rfl
theorem cx_at270 : PM.find cx 270 = some ⟨7, true, [.int .i64 0, .int .i64 0, .int .i64 0, .int .i64 0, .int .i64 0, .arr (.emp (.vecs 297 2)), .arr (.emp (.ints 3 .i64))], none, 0, none, [0, 1, 2, 3, 4, 5, 6], [1, 1, 1, 1, 1, 1, 1], [3, 3, 3, 3, 3, 90, 24], [.int .i64, .int .i64, .int .i64, .int .i64, .int .i64, .sl 90, .sl 24], false⟩ := by kernel_rfl
theorem cx_at271 : PM.find cx 271 = some ⟨40, true, [.int .i64 0, .int .i64 0, .int .i64 0, .int .i64 0, .int .i64 0, .int .i64 0, .int .i64 0, .int .i64 0, .int .i64 0, .int .i64 0, .int .i64 0, .bool false, .arr (.emp (.ints 3 .i64)), .arr (.emp (.vecs 297 2)), .arr (.emp (.vecs 297 2)), .arr (.emp (.rows 395)), .arr (.emp (.vecs 401 3)), .arr (.emp (.ints 3 .i64)), .bool false, .int .i64 0, .int .i64 0, .int .i64 0, .int .i64 0, .int .i64 0, .int .i64 0, .int .i64 0, .int .i64 0, .int .i64 0, .arr (.emp (.vecs 297 2)), .arr (.emp (.ints 3 .i64)), .int .i64 0, .int .i64 0, .int .i64 0, .bool false, .arr (.emp (.ints 3 .i64)), .arr (.emp (.vecs 297 2)), .arr (.emp (.vecs 299 3)), .arr (.emp (.ints 3 .i64)), .arr (.emp (.vecs 297 2)), .arr (.emp (.rows 295))], none, 0, none, [0, 1, 2, 3, 4, 5, 6, 7, 8, 9, 10, 11, 12, 13, 14, 15, 16, 17, 18, 19, 23, 30], [1, 1, 1, 1, 1, 1, 1, 1, 1, 1, 1, 1, 1, 1, 1, 1, 1, 1, 1, 4, 7, 10], [3, 3, 3, 3, 3, 3, 3, 3, 3, 3, 3, 4, 24, 90, 90, 266, 267, 24, 4, 268, 270, 94], [.int .i64, .int .i64, .int .i64, .int .i64, .int .i64, .int .i64, .int .i64, .int .i64, .int .i64, .int .i64, .int .i64, .bool, .sl 24, .sl 90, .sl 90, .sl 266, .sl 267, .sl 24, .bool, .int .i64, .int .i64, .int .i64, .int .i64, .int .i64, .int .i64, .int .i64, .int .i64, .int .i64, .sl 90, .sl 24, .int .i64, .int .i64, .int .i64, .bool, .sl 24, .sl 90, .sl 91, .sl 24, .sl 90, .sl 92], false⟩ := by kernel_rfl
theorem cx_at272 : PM.find cx 272 = some ⟨40, true, [.int .i64 0, .int .i64 0, .int .i64 0, .int .i64 0, .int .i64 0, .int .i64 0, .int .i64 0, .int .i64 0, .int .i64 0, .int .i64 0, .int .i64 0, .bool false, .arr (.emp (.ints 3 .i64)), .arr (.emp (.vecs 297 2)), .arr (.emp (.vecs 297 2)), .arr (.emp (.rows 395)), .arr (.emp (.vecs 401 3)), .arr (.emp (.ints 3 .i64)), .bool false, .int .i64 0, .int .i64 0, .int .i64 0, .int .i64 0, .int .i64 0, .int .i64 0, .int .i64 0, .int .i64 0, .int .i64 0, .arr (.emp (.vecs 297 2)), .arr (.emp (.ints 3 .i64)), .int .i64 0, .int .i64 0, .int .i64 0, .bool false, .arr (.emp (.ints 3 .i64)), .arr (.emp (.vecs 297 2)), .arr (.emp (.vecs 299 3)), .arr (.emp (.ints 3 .i64)), .arr (.emp (.vecs 297 2)), .arr (.emp (.rows 295))], none, 0, none, [0, 1, 2, 3, 4, 5, 6, 7, 8, 9, 10, 11, 12, 13, 14, 15, 16, 17, 18, 19, 23, 30], [1, 1, 1, 1, 1, 1, 1, 1, 1, 1, 1, 1, 1, 1, 1, 1, 1, 1, 1, 4, 7, 10], [3, 3, 3, 3, 3, 3, 3, 3, 3, 3, 3, 4, 24, 90, 90, 266, 267, 24, 4, 268, 270, 94], [.int .i64, .int .i64, .int .i64, .int .i64, .int .i64, .int .i64, .int .i64, .int .i64, .int .i64, .int .i64, .int .i64, .bool, .sl 24, .sl 90, .sl 90, .sl 266, .sl 267, .sl 24, .bool, .int .i64, .int .i64, .int .i64, .int .i64, .int .i64, .int .i64, .int .i64, .int .i64, .int .i64, .sl 90, .sl 24, .int .i64, .int .i64, .int .i64, .bool, .sl 24, .sl 90, .sl 91, .sl 24, .sl 90, .sl 92], false⟩ := by kernel_rfl
theorem cx_at274 : PM.find cx 274 = some ⟨3, true, [.int .i64 0, .int .i64 0, .int .i64 0], none, 0, none, [0, 1, 2], [1, 1, 1], [3, 3, 3], [.int .i64, .int .i64, .int .i64], true⟩ := by kernel_rfl
theorem cx_at275 : PM.find cx 275 = some ⟨3, true, [.int .i64 0, .int .i64 0, .int .i64 0], none, 0, none, [0, 1, 2], [1, 1, 1], [3, 3, 3], [.int .i64, .int .i64, .int .i64], true⟩ := by kernel_rfl
theorem cx_at277 : PM.find cx 277 = some ⟨3, true, [.int .i64 0, .int .i64 0, .int .i64 0], none, 0, none, [0, 1, 2], [1, 1, 1], [3, 3, 3], [.int .i64, .int .i64, .int .i64], true⟩ := by kernel_rfl
theorem cx_at284 : PM.find cx 284 = some ⟨18, true, [.int .i64 0, .int .i64 0, .int .i64 0, .int .i64 0, .int .i64 0, .arr (.emp (.vecs 297 2)), .bool false, .int .i64 0, .int .i64 0, .int .i64 0, .int .i64 0, .int .i64 0, .int .i64 0, .int .i64 0, .int .i64 0, .int .i64 0, .arr (.emp (.vecs 297 2)), .arr (.emp (.ints 3 .i64))], none, 0, none, [0, 1, 2, 3, 4, 5, 6, 7, 11], [1, 1, 1, 1, 1, 1, 1, 4, 7], [3, 3, 3, 3, 3, 90, 4, 268, 270], [.int .i64, .int .i64, .int .i64, .int .i64, .int .i64, .sl 90, .bool, .int .i64, .int .i64, .int .i64, .int .i64, .int .i64, .int .i64, .int .i64, .int .i64, .int .i64, .sl 90, .sl 24], false⟩ := by kernel_rfl
theorem cx_at285 : PM.find cx 285 = some ⟨18, true, [.int .i64 0, .int .i64 0, .int .i64 0, .int .i64 0, .int .i64 0, .arr (.emp (.vecs 297 2)), .bool false, .int .i64 0, .int .i64 0, .int .i64 0, .int .i64 0, .int .i64 0, .int .i64 0, .int .i64 0, .int .i64 0, .int .i64 0, .arr (.emp (.vecs 297 2)), .arr (.emp (.ints 3 .i64))], none, 0, none, [0, 1, 2, 3, 4, 5, 6, 7, 11], [1, 1, 1, 1, 1, 1, 1, 4, 7], [3, 3, 3, 3, 3, 90, 4, 268, 270], [.int .i64, .int .i64, .int .i64, .int .i64, .int .i64, .sl 90, .bool, .int .i64, .int .i64, .int .i64, .int .i64, .int .i64, .int .i64, .int .i64, .int .i64, .int .i64, .sl 90, .sl 24], false⟩ := by kernel_rfl
theorem cx_at286 : PM.find cx 286 = some ⟨3, true, [.int .i64 0, .int .i64 0, .int .i64 0], none, 0, none, [0, 1, 2], [1, 1, 1], [3, 3, 3], [.int .i64, .int .i64, .int .i64], true⟩ := by kernel_rfl
theorem cx_at287 : PM.find cx 287 = some ⟨3, true, [.int .i64 0, .int .i64 0, .int .i64 0], none, 0, none, [0, 1, 2], [1, 1, 1], [3, 3, 3], [.int .i64, .int .i64, .int .i64], true⟩ := by kernel_rfl
theorem cx_at293 : PM.find cx 293 = some ⟨1, false, [.arr (.emp (.rows 405))], some (.rows 405), 3, none, [], [], [], [.sl 293], false⟩ := by kernel_rfl
theorem cx_at294 : PM.find cx 294 = some ⟨15, true, [.int .i64 0, .int .i64 0, .int .i64 0, .int .i64 0, .int .i64 0, .int .i64 0, .arr (.emp (.ints 3 .i64)), .arr (.emp (.vecs 299 3)), .arr (.emp (.vecs 297 2)), .arr (.emp (.rows 405)), .bool false, .int .i64 0, .int .i64 0, .int .i64 0, .int .i64 0], none, 0, none, [0, 1, 2, 3, 4, 5, 6, 7, 8, 9, 10, 11], [1, 1, 1, 1, 1, 1, 1, 1, 1, 1, 1, 4], [3, 3, 3, 3, 3, 3, 24, 91, 90, 293, 4, 268], [.int .i64, .int .i64, .int .i64, .int .i64, .int .i64, .int .i64, .sl 24, .sl 91, .sl 90, .sl 293, .bool, .int .i64, .int .i64, .int .i64, .int .i64], false⟩ := by kernel_rfl
theorem cx_at295 : PM.find cx 295 = some ⟨15, true, [.int .i64 0, .int .i64 0, .int .i64 0, .int .i64 0, .int .i64 0, .int .i64 0, .arr (.emp (.ints 3 .i64)), .arr (.emp (.vecs 299 3)), .arr (.emp (.vecs 297 2)), .arr (.emp (.rows 405)), .bool false, .int .i64 0, .int .i64 0, .int .i64 0, .int .i64 0], none, 0, none, [0, 1, 2, 3, 4, 5, 6, 7, 8, 9, 10, 11], [1, 1, 1, 1, 1, 1, 1, 1, 1, 1, 1, 4], [3, 3, 3, 3, 3, 3, 24, 91, 90, 293, 4, 268], [.int .i64, .int .i64, .int .i64, .int .i64, .int .i64, .int .i64, .sl 24, .sl 91, .sl 90, .sl 293, .bool, .int .i64, .int .i64, .int .i64, .int .i64], false⟩ := by kernel_rfl
theorem cx_at297 : PM.find cx 297 = some ⟨2, true, [.int .i64 0, .int .i64 0], none, 0, none, [0, 1], [1, 1], [3, 3], [.int .i64, .int .i64], true⟩ := by kernel_rfl
theorem cx_at299 : PM.find cx 299 = some ⟨3, true, [.int .i64 0, .int .i64 0, .int .i64 0], none, 0, none, [0, 1, 2], [1, 1, 1], [3, 3, 3], [.int .i64, .int .i64, .int .i64], true⟩ := by kernel_rfl
theorem cx_at307 : PM.find cx 307 = some ⟨1, false, [.arr (.emp (.vecs 409 4))], some (.vecs 409 4), 4, none, [], [], [], [.sl 307], false⟩ := by kernel_rfl
theorem cx_at308 : PM.find cx 308 = some ⟨1, true, [.arr (.emp (.vecs 409 4))], none, 0, none, [0], [1], [307], [.sl 307], false⟩ := by kernel_rfl
theorem cx_at309 : PM.find cx 309 = some ⟨1, true, [.arr (.emp (.vecs 409 4))], none, 0, none, [0], [1], [307], [.sl 307], false⟩ := by kernel_rfl
theorem cx_at311 : PM.find cx 311 = some ⟨4, true, [.int .i64 0, .int .i64 0, .int .i64 0, .int .i64 0], none, 0, none, [0, 1, 2, 3], [1, 1, 1, 1], [3, 3, 3, 3], [.int .i64, .int .i64, .int .i64, .int .i64], true⟩ := by kernel_rfl
theorem cx_at312 : PM.find cx 312 = some ⟨4, true, [.int .i64 0, .int .i64 0, .int .i64 0, .int .i64 0], none, 0, none, [0, 1, 2, 3], [1, 1, 1, 1], [3, 3, 3, 3], [.int .i64, .int .i64, .int .i64, .int .i64], true⟩ := by kernel_rfl
theorem cx_at316 : PM.find cx 316 = some ⟨2, true, [.arr (.emp (.vecs 409 4)), .arr (.emp (.rows 309))], none, 0, none, [0, 1], [1, 1], [307, 112], [.sl 307, .sl 112], false⟩ := by kernel_rfl
theorem cx_at317 : PM.find cx 317 = some ⟨2, true, [.arr (.emp (.vecs 409 4)), .arr (.emp (.rows 309))], none, 0, none, [0, 1], [1, 1], [307, 112], [.sl 307, .sl 112], false⟩ := by kernel_rfl
theorem cx_at319 : PM.find cx 319 = some ⟨3, true, [.int .i64 0, .int .i64 0, .int .i64 0], none, 0, none, [0, 1, 2], [1, 1, 1], [3, 3, 3], [.int .i64, .int .i64, .int .i64], true⟩ := by kernel_rfl
theorem cx_at320 : PM.find cx 320 = some ⟨3, true, [.int .i64 0, .int .i64 0, .int .i64 0], none, 0, none, [0, 1, 2], [1, 1, 1], [3, 3, 3], [.int .i64, .int .i64, .int .i64], true⟩ := by kernel_rfl
theorem cx_at322 : PM.find cx 322 = some ⟨3, true, [.int .i64 0, .int .i64 0, .int .i64 0], none, 0, none, [0, 1, 2], [1, 1, 1], [3, 3, 3], [.int .i64, .int .i64, .int .i64], true⟩ := by kernel_rfl
theorem cx_at326 : PM.find cx 326 = some ⟨1, false, [.arr (.emp (.bools 4))], some (.bools 4), 1, none, [], [], [], [.sl 326], false⟩ := by kernel_rfl
theorem cx_at327 : PM.find cx 327 = some ⟨5, true, [.int .i64 0, .arr (.emp (.ints 3 .i64)), .arr (.emp (.ints 3 .i64)), .arr (.emp (.ints 3 .i64)), .int .i64 0], none, 0, none, [0, 1, 2], [1, 1, 3], [3, 24, 135], [.int .i64, .sl 24, .sl 24, .sl 24, .int .i64], false⟩ := by kernel_rfl
theorem cx_at328 : PM.find cx 328 = some ⟨5, true, [.int .i64 0, .arr (.emp (.ints 3 .i64)), .arr (.emp (.ints 3 .i64)), .arr (.emp (.ints 3 .i64)), .int .i64 0], none, 0, none, [0, 1, 2], [1, 1, 3], [3, 24, 135], [.int .i64, .sl 24, .sl 24, .sl 24, .int .i64], false⟩ := by kernel_rfl
theorem cx_at334 : PM.find cx 334 = some ⟨1, false, [.int .i64 0], none, 0, none, [], [], [], [.int .i64], false⟩ := by kernel_rfl
theorem cx_at341 : PM.find cx 341 = some ⟨1, false, [.int .u32 0], none, 0, none, [], [], [], [.int .u32], false⟩ := by kernel_rfl
theorem cx_at343 : PM.find cx 343 = some ⟨1, false, [.int .u64 0], none, 0, none, [], [], [], [.int .u64], false⟩ := by kernel_rfl
theorem cx_at354 : PM.find cx 354 = some ⟨3, true, [.int .i64 0, .int .i64 0, .int .i64 0], none, 0, none, [0, 1, 2], [1, 1, 1], [3, 3, 3], [.int .i64, .int .i64, .int .i64], true⟩ := by kernel_rfl
theorem cx_at367 : PM.find cx 367 = some ⟨3, true, [.int .i64 0, .int .i64 0, .arr (.emp (.ints 3 .i64))], none, 0, none, [0, 1, 2], [1, 1, 1], [3, 3, 24], [.int .i64, .int .i64, .sl 24], false⟩ := by kernel_rfl
theorem cx_at368 : PM.find cx 368 = some ⟨3, true, [.int .i64 0, .int .i64 0, .arr (.emp (.ints 3 .i64))], none, 0, none, [0, 1, 2], [1, 1, 1], [3, 3, 24], [.int .i64, .int .i64, .sl 24], false⟩ := by kernel_rfl
theorem cx_at376 : PM.find cx 376 = some ⟨1, false, [.arr (.emp (.rows 378))], some (.rows 378), 5, none, [], [], [], [.sl 376], false⟩ := by kernel_rfl
theorem cx_at377 : PM.find cx 377 = some ⟨5, true, [.int .i64 0, .arr (.emp (.ints 3 .i64)), .arr (.emp (.ints 3 .i64)), .arr (.emp (.ints 3 .i64)), .int .i64 0], none, 0, none, [0, 1, 2], [1, 1, 3], [3, 24, 135], [.int .i64, .sl 24, .sl 24, .sl 24, .int .i64], false⟩ := by kernel_rfl
theorem cx_at378 : PM.find cx 378 = some ⟨5, true, [.int .i64 0, .arr (.emp (.ints 3 .i64)), .arr (.emp (.ints 3 .i64)), .arr (.emp (.ints 3 .i64)), .int .i64 0], none, 0, none, [0, 1, 2], [1, 1, 3], [3, 24, 135], [.int .i64, .sl 24, .sl 24, .sl 24, .int .i64], false⟩ := by kernel_rfl
theorem cx_at380 : PM.find cx 380 = some ⟨1, false, [.arr (.emp (.rows 382))], some (.rows 382), 5, none, [], [], [], [.sl 380], false⟩ := by kernel_rfl
theorem cx_at381 : PM.find cx 381 = some ⟨5, true, [.int .i64 0, .arr (.emp (.ints 3 .i64)), .arr (.emp (.ints 3 .i64)), .arr (.emp (.ints 3 .i64)), .int .i64 0], none, 0, none, [0, 1, 2], [1, 1, 3], [3, 24, 135], [.int .i64, .sl 24, .sl 24, .sl 24, .int .i64], false⟩ := by kernel_rfl
theorem cx_at382 : PM.find cx 382 = some ⟨5, true, [.int .i64 0, .arr (.emp (.ints 3 .i64)), .arr (.emp (.ints 3 .i64)), .arr (.emp (.ints 3 .i64)), .int .i64 0], none, 0, none, [0, 1, 2], [1, 1, 3], [3, 24, 135], [.int .i64, .sl 24, .sl 24, .sl 24, .int .i64], false⟩ := by kernel_rfl
theorem cx_at385 : PM.find cx 385 = some ⟨1, false, [.int .u64 0], none, 0, none, [], [], [], [.int .u64], false⟩ := by kernel_rfl
theorem cx_at394 : PM.find cx 394 = some ⟨5, true, [.int .i64 0, .int .i64 0, .int .i64 0, .int .i64 0, .arr (.emp (.ints 3 .i64))], none, 0, none, [0, 1, 2, 3, 4], [1, 1, 1, 1, 1], [3, 3, 3, 3, 24], [.int .i64, .int .i64, .int .i64, .int .i64, .sl 24], false⟩ := by kernel_rfl
theorem cx_at395 : PM.find cx 395 = some ⟨5, true, [.int .i64 0, .int .i64 0, .int .i64 0, .int .i64 0, .arr (.emp (.ints 3 .i64))], none, 0, none, [0, 1, 2, 3, 4], [1, 1, 1, 1, 1], [3, 3, 3, 3, 24], [.int .i64, .int .i64, .int .i64, .int .i64, .sl 24], false⟩ := by kernel_rfl
theorem cx_at396 : PM.find cx 396 = some ⟨5, true, [.int .i64 0, .int .i64 0, .int .i64 0, .int .i64 0, .arr (.emp (.ints 3 .i64))], none, 0, none, [0, 1, 2, 3, 4], [1, 1, 1, 1, 1], [3, 3, 3, 3, 24], [.int .i64, .int .i64, .int .i64, .int .i64, .sl 24], false⟩ := by kernel_rfl
theorem cx_at398 : PM.find cx 398 = some ⟨3, true, [.int .i64 0, .int .i64 0, .int .i64 0], none, 0, none, [0, 1, 2], [1, 1, 1], [3, 3, 3], [.int .i64, .int .i64, .int .i64], true⟩ := by kernel_rfl
theorem cx_at399 : PM.find cx 399 = some ⟨3, true, [.int .i64 0, .int .i64 0, .int .i64 0], none, 0, none, [0, 1, 2], [1, 1, 1], [3, 3, 3], [.int .i64, .int .i64, .int .i64], true⟩ := by kernel_rfl
theorem cx_at401 : PM.find cx 401 = some ⟨3, true, [.int .i64 0, .int .i64 0, .int .i64 0], none, 0, none, [0, 1, 2], [1, 1, 1], [3, 3, 3], [.int .i64, .int .i64, .int .i64], true⟩ := by kernel_rfl
theorem cx_at405 : PM.find cx 405 = some ⟨3, true, [.int .i64 0, .int .i64 0, .arr (.emp (.ints 3 .i64))], none, 0, none, [0, 1, 2], [1, 1, 1], [3, 3, 24], [.int .i64, .int .i64, .sl 24], false⟩ := by kernel_rfl
theorem cx_at409 : PM.find cx 409 = some ⟨4, true, [.int .i64 0, .int .i64 0, .int .i64 0, .int .i64 0], none, 0, none, [0, 1, 2, 3], [1, 1, 1, 1], [3, 3, 3, 3], [.int .i64, .int .i64, .int .i64, .int .i64], true⟩ := by kernel_rfl
theorem cx_at423 : PM.find cx 423 = some ⟨1, false, [.int .u8 0], none, 0, none, [], [], [], [.int .u8], false⟩ := by kernel_rfl
theorem cx_at424 : PM.find cx 424 = some ⟨1, false, [.int .u8 0], none, 0, none, [], [], [], [.int .u8], false⟩ := by kernel_rfl
theorem cx_at427 : PM.find cx 427 = some ⟨1, false, [.int .i32 0], none, 0, none, [], [], [], [.int .i32], false⟩ := by kernel_rfl
theorem cx_at428 : PM.find cx 428 = some ⟨1, false, [.int .i32 0], none, 0, none, [], [], [], [.int .i32], false⟩ := by kernel_rfl

abbrev laws_szIntS_T := (List Int) → (Int) → ((Int) → PM.R) → PM.R
noncomputable def laws_szIntS_w (c : laws_szIntS_T) (ds : List PM.V) (k : PM.V → PM.R) : PM.R :=
  match ds with
  | [.arr (.ints 3 .i64 a), .int .i64 left] => c a left (fun r0 => k (.int .i64 r0))
  | _ => none
noncomputable def laws_szIntS_f (A : PM.Prims) (a : List Int) (left : Int) (k : (Int) → PM.R) : PM.R :=
  bif (A.lt (A.sub .i64 left (A.ilen a)) 0) then
    k (-1)
  else
    k (A.sub .i64 left (A.ilen a))
noncomputable def laws_szIntS (A : PM.Prims) : laws_szIntS_T := laws_szIntS_f A
noncomputable def laws_szIntS_L (A : PM.Prims) (n : Nat) : PM.Lam := fun cur σ K =>
  match cur, σ, K with
  | _, _, _ => none
noncomputable def laws_szIntS_E (A : PM.Prims) : PM.Env := ⟨[], [], [], [(0, [0, 1]), (1, [1]), (2, [1, 10]), (3, [4]), (4, [4])], laws_szIntS_L A A.fuel⟩
theorem laws_szIntS_ok (A : PM.Prims) (a : List Int) (left : Int) (k : PM.V → PM.R) : PM.pfun A cx [] (laws_szIntS_E A) Go.Proofs.Try.f146 [.arr (.ints 3 .i64 a), .int .i64 left] k = laws_szIntS_f A a left (fun r0 => k (.int .i64 r0)) := by kernel_rfl

theorem laws_szIntS_fn : PM.FnIs Try.prog 146 Try.f146 := .of Try.func146 (by kernel_rfl) (by kernel_rfl)
theorem laws_szIntS_g : PM.GOk Try.prog cx 146 ⟨[], laws_szIntS_w (laws_szIntS PM.std), none⟩ := by
  refine ⟨laws_szIntS_fn.enter, fun _ ds k r h => ?_, fun hm => absurd rfl hm, fun _ e => (by cases e)⟩
  change laws_szIntS_w (laws_szIntS PM.std) ds k = some r at h
  unfold laws_szIntS_w at h
  split at h
  · exact PM.pfun_ok (E := laws_szIntS_E PM.std) (L := fun n => laws_szIntS_L PM.std n) (N := PM.std.fuel) cx_ok .nil mixed .nil laws_szIntS_fn (by kernel_rfl) ⟨rfl, fun _ _ _ => rfl, fun n cur σ K r h => by cases h⟩
      ((laws_szIntS_ok PM.std _ _ k).trans h)
  · cases h

abbrev laws_szRowS_T := (List (List Int)) → (Int) → ((Int) → PM.R) → PM.R
noncomputable def laws_szRowS_w (c : laws_szRowS_T) (ds : List PM.V) (k : PM.V → PM.R) : PM.R :=
  match ds with
  | [.arr (.vecs 297 2 a), .int .i64 left] => c a left (fun r0 => k (.int .i64 r0))
  | _ => none
noncomputable def laws_szRowS_f (A : PM.Prims) (a : List (List Int)) (left : Int) (k : (Int) → PM.R) : PM.R :=
  bif (A.lt (A.sub .i64 left (A.vlen a)) 0) then
    k (-1)
  else
    k (A.sub .i64 left (A.vlen a))
noncomputable def laws_szRowS (A : PM.Prims) : laws_szRowS_T := laws_szRowS_f A
noncomputable def laws_szRowS_L (A : PM.Prims) (n : Nat) : PM.Lam := fun cur σ K =>
  match cur, σ, K with
  | _, _, _ => none
noncomputable def laws_szRowS_E (A : PM.Prims) : PM.Env := ⟨[], [], [], [(0, [0, 1]), (1, [1]), (2, [1, 10]), (3, [4]), (4, [4])], laws_szRowS_L A A.fuel⟩
theorem laws_szRowS_ok (A : PM.Prims) (a : List (List Int)) (left : Int) (k : PM.V → PM.R) : PM.pfun A cx [] (laws_szRowS_E A) Go.Proofs.Try.f147 [.arr (.vecs 297 2 a), .int .i64 left] k = laws_szRowS_f A a left (fun r0 => k (.int .i64 r0)) := by kernel_rfl

theorem laws_szRowS_fn : PM.FnIs Try.prog 147 Try.f147 := .of Try.func147 (by kernel_rfl) (by kernel_rfl)
theorem laws_szRowS_g : PM.GOk Try.prog cx 147 ⟨[], laws_szRowS_w (laws_szRowS PM.std), none⟩ := by
  refine ⟨laws_szRowS_fn.enter, fun _ ds k r h => ?_, fun hm => absurd rfl hm, fun _ e => (by cases e)⟩
  change laws_szRowS_w (laws_szRowS PM.std) ds k = some r at h
  unfold laws_szRowS_w at h
  split at h
  · exact PM.pfun_ok (E := laws_szRowS_E PM.std) (L := fun n => laws_szRowS_L PM.std n) (N := PM.std.fuel) cx_ok .nil mixed .nil laws_szRowS_fn (by kernel_rfl) ⟨rfl, fun _ _ _ => rfl, fun n cur σ K r h => by cases h⟩
      ((laws_szRowS_ok PM.std _ _ k).trans h)
  · cases h

abbrev laws_szEntryS_T := (List (List Int)) → (Int) → ((Int) → PM.R) → PM.R
noncomputable def laws_szEntryS_w (c : laws_szEntryS_T) (ds : List PM.V) (k : PM.V → PM.R) : PM.R :=
  match ds with
  | [.arr (.vecs 299 3 a), .int .i64 left] => c a left (fun r0 => k (.int .i64 r0))
  | _ => none
noncomputable def laws_szEntryS_f (A : PM.Prims) (a : List (List Int)) (left : Int) (k : (Int) → PM.R) : PM.R :=
  bif (A.lt (A.sub .i64 left (A.vlen a)) 0) then
    k (-1)
  else
    k (A.sub .i64 left (A.vlen a))
noncomputable def laws_szEntryS (A : PM.Prims) : laws_szEntryS_T := laws_szEntryS_f A
noncomputable def laws_szEntryS_L (A : PM.Prims) (n : Nat) : PM.Lam := fun cur σ K =>
  match cur, σ, K with
  | _, _, _ => none
noncomputable def laws_szEntryS_E (A : PM.Prims) : PM.Env := ⟨[], [], [], [(0, [0, 1]), (1, [1]), (2, [1, 10]), (3, [4]), (4, [4])], laws_szEntryS_L A A.fuel⟩
theorem laws_szEntryS_ok (A : PM.Prims) (a : List (List Int)) (left : Int) (k : PM.V → PM.R) : PM.pfun A cx [] (laws_szEntryS_E A) Go.Proofs.Try.f148 [.arr (.vecs 299 3 a), .int .i64 left] k = laws_szEntryS_f A a left (fun r0 => k (.int .i64 r0)) := by kernel_rfl

theorem laws_szEntryS_fn : PM.FnIs Try.prog 148 Try.f148 := .of Try.func148 (by kernel_rfl) (by kernel_rfl)
theorem laws_szEntryS_g : PM.GOk Try.prog cx 148 ⟨[], laws_szEntryS_w (laws_szEntryS PM.std), none⟩ := by
  refine ⟨laws_szEntryS_fn.enter, fun _ ds k r h => ?_, fun hm => absurd rfl hm, fun _ e => (by cases e)⟩
  change laws_szEntryS_w (laws_szEntryS PM.std) ds k = some r at h
  unfold laws_szEntryS_w at h
  split at h
  · exact PM.pfun_ok (E := laws_szEntryS_E PM.std) (L := fun n => laws_szEntryS_L PM.std n) (N := PM.std.fuel) cx_ok .nil mixed .nil laws_szEntryS_fn (by kernel_rfl) ⟨rfl, fun _ _ _ => rfl, fun n cur σ K r h => by cases h⟩
      ((laws_szEntryS_ok PM.std _ _ k).trans h)
  · cases h

abbrev laws_szKidMark_T := (Int) → (Int) → (List Int) → (Int) → ((Int) → PM.R) → PM.R
noncomputable def laws_szKidMark_w (c : laws_szKidMark_T) (ds : List PM.V) (k : PM.V → PM.R) : PM.R :=
  match ds with
  | [.agg [.int .i64 a_Pc, .int .i64 a_Writes, .arr (.ints 3 .i64 a_Regs)], .int .i64 left] => c a_Pc a_Writes a_Regs left (fun r0 => k (.int .i64 r0))
  | _ => none
noncomputable def laws_szKidMark_f (A : PM.Prims) (c_146 : laws_szIntS_T) (a_Pc : Int) (a_Writes : Int) (a_Regs : List Int) (left : Int) (k : (Int) → PM.R) : PM.R :=
  c_146 a_Regs left (fun r1 =>
    bif (A.lt r1 0) then
      k (-1)
    else
      k r1)
noncomputable def laws_szKidMark (A : PM.Prims) : laws_szKidMark_T := laws_szKidMark_f A (laws_szIntS A)
noncomputable def laws_szKidMark_L (A : PM.Prims) (c_146 : laws_szIntS_T) (n : Nat) : PM.Lam := fun cur σ K =>
  match cur, σ, K with
  | _, _, _ => none
noncomputable def laws_szKidMark_E (A : PM.Prims) (c_146 : laws_szIntS_T) : PM.Env := ⟨[(146, ⟨[], laws_szIntS_w c_146, none⟩)], [], [], [(0, [1, 2]), (1, [1]), (2, [1, 10]), (3, [4]), (4, [4])], laws_szKidMark_L A c_146 A.fuel⟩
theorem laws_szKidMark_ok (A : PM.Prims) (c_146 : laws_szIntS_T) (a_Pc : Int) (a_Writes : Int) (a_Regs : List Int) (left : Int) (k : PM.V → PM.R) : PM.pfun A cx [] (laws_szKidMark_E A c_146) Go.Proofs.Try.f312 [.agg [.int .i64 a_Pc, .int .i64 a_Writes, .arr (.ints 3 .i64 a_Regs)], .int .i64 left] k = laws_szKidMark_f A c_146 a_Pc a_Writes a_Regs left (fun r0 => k (.int .i64 r0)) := by kernel_rfl

theorem laws_szKidMark_fn : PM.FnIs Try.prog 312 Try.f312 := .of Try.func312 (by kernel_rfl) (by kernel_rfl)
theorem laws_szKidMark_g : PM.GOk Try.prog cx 312 ⟨[], laws_szKidMark_w (laws_szKidMark PM.std), none⟩ := by
  refine ⟨laws_szKidMark_fn.enter, fun _ ds k r h => ?_, fun hm => absurd rfl hm, fun _ e => (by cases e)⟩
  change laws_szKidMark_w (laws_szKidMark PM.std) ds k = some r at h
  unfold laws_szKidMark_w at h
  split at h
  · exact PM.pfun_ok (E := laws_szKidMark_E PM.std (laws_szIntS PM.std)) (L := fun n => laws_szKidMark_L PM.std (laws_szIntS PM.std) n) (N := PM.std.fuel) cx_ok (.cons laws_szIntS_g .nil) mixed .nil laws_szKidMark_fn (by kernel_rfl) ⟨rfl, fun _ _ _ => rfl, fun n cur σ K r h => by cases h⟩
      ((laws_szKidMark_ok PM.std (laws_szIntS PM.std) _ _ _ _ k).trans h)
  · cases h

abbrev laws_szKidMarkS_T := (List (List PM.C)) → (Int) → ((Int) → PM.R) → PM.R
noncomputable def laws_szKidMarkS_w (c : laws_szKidMarkS_T) (ds : List PM.V) (k : PM.V → PM.R) : PM.R :=
  match ds with
  | [.arr (.rows 405 a), .int .i64 left] => c a left (fun r0 => k (.int .i64 r0))
  | _ => none
noncomputable def laws_szKidMarkS_l0 (A : PM.Prims) (c_312 : laws_szKidMark_T) : Nat → (List (List C)) → (Int) → (Int) → ((Int) → PM.R) → ((Int) → PM.R) → PM.R
  | 0, _, _, _, _, _ => none
  | n + 1, a1, left2, i3, kret_0, kx0_0 =>
    bif (A.lt i3 (A.rlen a1)) then
      bif (A.inb i3 (A.rlen a1)) then
        c_312 (A.rint a1 i3 0) (A.rint a1 i3 1) (A.rsi a1 i3 2) left2 (fun r4 =>
          bif (A.lt r4 0) then
            kret_0 (-1)
          else
            laws_szKidMarkS_l0 A c_312 n a1 r4 (A.add .i64 i3 1) kret_0 kx0_0)
      else
        none
    else
      kx0_0 left2
noncomputable def laws_szKidMarkS_f (A : PM.Prims) (c_312 : laws_szKidMark_T) (a : List (List PM.C)) (left : Int) (k : (Int) → PM.R) : PM.R :=
  bif (A.lt (A.sub .i64 left (A.rlen a)) 0) then
    k (-1)
  else
    laws_szKidMarkS_l0 A c_312 A.fuel a (A.sub .i64 left (A.rlen a)) 0 (fun t457 =>
      k t457) (fun left68 =>
      k left68)
noncomputable def laws_szKidMarkS (A : PM.Prims) : laws_szKidMarkS_T := laws_szKidMarkS_f A (laws_szKidMark A)
noncomputable def laws_szKidMarkS_L (A : PM.Prims) (c_312 : laws_szKidMark_T) (n : Nat) : PM.Lam := fun cur σ K =>
  match cur, σ, K with
  | 0, ⟨[(0, .arr (.rows 405 a1)), (1, .int .i64 left2), (5, .int .i64 i3)], []⟩, K => laws_szKidMarkS_l0 A c_312 n a1 left2 i3 (fun t45 => K .ret ⟨[(4, .int .i64 t45)], []⟩) (fun left6 => K (.exit 0) ⟨[(1, .int .i64 left6)], []⟩)
  | _, _, _ => none
noncomputable def laws_szKidMarkS_E (A : PM.Prims) (c_312 : laws_szKidMark_T) : PM.Env := ⟨[(312, ⟨[], laws_szKidMark_w c_312, none⟩)], [], [(0, [0, 1, 5], [1, 4])], [(0, [0, 1]), (1, [0, 1]), (2, [0, 1, 11]), (3, [4]), (4, [0, 1, 5]), (5, [0, 1, 5, 15]), (6, [0, 1, 5]), (7, [0, 1, 5]), (8, [0, 1, 5, 25]), (9, [4]), (10, [4])], laws_szKidMarkS_L A c_312 A.fuel⟩
theorem laws_szKidMarkS_l0_ok (A : PM.Prims) (c_312 : laws_szKidMark_T) (n : Nat) (a1 : List (List C)) (left2 : Int) (i3 : Int) (K : Go.Exit → PM.S → PM.R) : laws_szKidMarkS_L A c_312 (n + 1) 0 ⟨[(0, .arr (.rows 405 a1)), (1, .int .i64 left2), (5, .int .i64 i3)], []⟩ K = PM.roundF A cx (PM.runD A cx (laws_szKidMarkS_E A c_312).inl (laws_szKidMarkS_E A c_312).Γ 3) (laws_szKidMarkS_E A c_312) (laws_szKidMarkS_L A c_312 n) 0 Go.Proofs.Try.f276 ⟨[(0, .arr (.rows 405 a1)), (1, .int .i64 left2), (5, .int .i64 i3)], []⟩ K := by kernel_rfl
theorem laws_szKidMarkS_ok (A : PM.Prims) (c_312 : laws_szKidMark_T) (a : List (List PM.C)) (left : Int) (k : PM.V → PM.R) : PM.pfun A cx [] (laws_szKidMarkS_E A c_312) Go.Proofs.Try.f276 [.arr (.rows 405 a), .int .i64 left] k = laws_szKidMarkS_f A c_312 a left (fun r0 => k (.int .i64 r0)) := by kernel_rfl

theorem laws_szKidMarkS_fn : PM.FnIs Try.prog 276 Try.f276 := .of Try.func276 (by kernel_rfl) (by kernel_rfl)
theorem laws_szKidMarkS_g : PM.GOk Try.prog cx 276 ⟨[], laws_szKidMarkS_w (laws_szKidMarkS PM.std), none⟩ := by
  refine ⟨laws_szKidMarkS_fn.enter, fun _ ds k r h => ?_, fun hm => absurd rfl hm, fun _ e => (by cases e)⟩
  change laws_szKidMarkS_w (laws_szKidMarkS PM.std) ds k = some r at h
  unfold laws_szKidMarkS_w at h
  split at h
  · exact PM.pfun_ok (E := laws_szKidMarkS_E PM.std (laws_szKidMark PM.std)) (L := fun n => laws_szKidMarkS_L PM.std (laws_szKidMark PM.std) n) (N := PM.std.fuel) cx_ok (.cons laws_szKidMark_g .nil) mixed .nil laws_szKidMarkS_fn (by kernel_rfl) ⟨rfl, fun cur σ K => by
      dsimp only [laws_szKidMarkS_L]
      split <;> rfl, fun n cur σ K r h => by
      dsimp only [laws_szKidMarkS_L] at h
      split at h
      · exact (laws_szKidMarkS_l0_ok PM.std (laws_szKidMark PM.std) n _ _ _ K).symm.trans h
      · cases h⟩
      ((laws_szKidMarkS_ok PM.std (laws_szKidMark PM.std) _ _ k).trans h)
  · cases h

abbrev laws_szKidRun_T := (Int) → (Int) → (Int) → (Int) → (Int) → (Int) → (List Int) → (List (List Int)) → (List (List Int)) → (List (List PM.C)) → (Bool) → (Int) → (Int) → (Int) → (Int) → (Int) → ((Int) → PM.R) → PM.R
noncomputable def laws_szKidRun_w (c : laws_szKidRun_T) (ds : List PM.V) (k : PM.V → PM.R) : PM.R :=
  match ds with
  | [.agg [.int .i64 a_Phase, .int .i64 a_Pc, .int .i64 a_Since, .int .i64 a_Tries, .int .i64 a_At, .int .i64 a_Out, .arr (.ints 3 .i64 a_Regs), .arr (.vecs 299 3 a_Seen), .arr (.vecs 297 2 a_Writes), .arr (.rows 405 a_Marks), .bool a_Busy, .int .i64 a_Probe_Cell, .int .i64 a_Probe_Phase, .int .i64 a_Probe_Ver, .int .i64 a_Probe_Val], .int .i64 left] => c a_Phase a_Pc a_Since a_Tries a_At a_Out a_Regs a_Seen a_Writes a_Marks a_Busy a_Probe_Cell a_Probe_Phase a_Probe_Ver a_Probe_Val left (fun r0 => k (.int .i64 r0))
  | _ => none
noncomputable def laws_szKidRun_f (A : PM.Prims) (c_146 : laws_szIntS_T) (c_147 : laws_szRowS_T) (c_148 : laws_szEntryS_T) (c_276 : laws_szKidMarkS_T) (a_Phase : Int) (a_Pc : Int) (a_Since : Int) (a_Tries : Int) (a_At : Int) (a_Out : Int) (a_Regs : List Int) (a_Seen : List (List Int)) (a_Writes : List (List Int)) (a_Marks : List (List PM.C)) (a_Busy : Bool) (a_Probe_Cell : Int) (a_Probe_Phase : Int) (a_Probe_Ver : Int) (a_Probe_Val : Int) (left : Int) (k : (Int) → PM.R) : PM.R :=
  c_146 a_Regs left (fun r1 =>
    bif (A.lt r1 0) then
      k (-1)
    else
      c_148 a_Seen r1 (fun r2 =>
        bif (A.lt r2 0) then
          k (-1)
        else
          c_147 a_Writes r2 (fun r3 =>
            bif (A.lt r3 0) then
              k (-1)
            else
              c_276 a_Marks r3 (fun r4 =>
                bif (A.lt r4 0) then
                  k (-1)
                else
                  k r4))))
noncomputable def laws_szKidRun (A : PM.Prims) : laws_szKidRun_T := laws_szKidRun_f A (laws_szIntS A) (laws_szRowS A) (laws_szEntryS A) (laws_szKidMarkS A)
noncomputable def laws_szKidRun_L (A : PM.Prims) (c_146 : laws_szIntS_T) (c_147 : laws_szRowS_T) (c_148 : laws_szEntryS_T) (c_276 : laws_szKidMarkS_T) (n : Nat) : PM.Lam := fun cur σ K =>
  match cur, σ, K with
  | _, _, _ => none
noncomputable def laws_szKidRun_E (A : PM.Prims) (c_146 : laws_szIntS_T) (c_147 : laws_szRowS_T) (c_148 : laws_szEntryS_T) (c_276 : laws_szKidMarkS_T) : PM.Env := ⟨[(146, ⟨[], laws_szIntS_w c_146, none⟩), (147, ⟨[], laws_szRowS_w c_147, none⟩), (148, ⟨[], laws_szEntryS_w c_148, none⟩), (276, ⟨[], laws_szKidMarkS_w c_276, none⟩)], [], [], [(0, [1, 2]), (1, [1, 2]), (2, [1, 2, 10]), (3, [4]), (4, [1, 2]), (5, [1, 2, 16]), (6, [4]), (7, [1, 2]), (8, [1, 2, 22]), (9, [4]), (10, [1]), (11, [1, 28]), (12, [4]), (13, [4])], laws_szKidRun_L A c_146 c_147 c_148 c_276 A.fuel⟩
theorem laws_szKidRun_ok (A : PM.Prims) (c_146 : laws_szIntS_T) (c_147 : laws_szRowS_T) (c_148 : laws_szEntryS_T) (c_276 : laws_szKidMarkS_T) (a_Phase : Int) (a_Pc : Int) (a_Since : Int) (a_Tries : Int) (a_At : Int) (a_Out : Int) (a_Regs : List Int) (a_Seen : List (List Int)) (a_Writes : List (List Int)) (a_Marks : List (List PM.C)) (a_Busy : Bool) (a_Probe_Cell : Int) (a_Probe_Phase : Int) (a_Probe_Ver : Int) (a_Probe_Val : Int) (left : Int) (k : PM.V → PM.R) : PM.pfun A cx [] (laws_szKidRun_E A c_146 c_147 c_148 c_276) Go.Proofs.Try.f213 [.agg [.int .i64 a_Phase, .int .i64 a_Pc, .int .i64 a_Since, .int .i64 a_Tries, .int .i64 a_At, .int .i64 a_Out, .arr (.ints 3 .i64 a_Regs), .arr (.vecs 299 3 a_Seen), .arr (.vecs 297 2 a_Writes), .arr (.rows 405 a_Marks), .bool a_Busy, .int .i64 a_Probe_Cell, .int .i64 a_Probe_Phase, .int .i64 a_Probe_Ver, .int .i64 a_Probe_Val], .int .i64 left] k = laws_szKidRun_f A c_146 c_147 c_148 c_276 a_Phase a_Pc a_Since a_Tries a_At a_Out a_Regs a_Seen a_Writes a_Marks a_Busy a_Probe_Cell a_Probe_Phase a_Probe_Ver a_Probe_Val left (fun r0 => k (.int .i64 r0)) := by kernel_rfl

theorem laws_szKidRun_fn : PM.FnIs Try.prog 213 Try.f213 := .of Try.func213 (by kernel_rfl) (by kernel_rfl)
theorem laws_szKidRun_g : PM.GOk Try.prog cx 213 ⟨[], laws_szKidRun_w (laws_szKidRun PM.std), none⟩ := by
  refine ⟨laws_szKidRun_fn.enter, fun _ ds k r h => ?_, fun hm => absurd rfl hm, fun _ e => (by cases e)⟩
  change laws_szKidRun_w (laws_szKidRun PM.std) ds k = some r at h
  unfold laws_szKidRun_w at h
  split at h
  · exact PM.pfun_ok (E := laws_szKidRun_E PM.std (laws_szIntS PM.std) (laws_szRowS PM.std) (laws_szEntryS PM.std) (laws_szKidMarkS PM.std)) (L := fun n => laws_szKidRun_L PM.std (laws_szIntS PM.std) (laws_szRowS PM.std) (laws_szEntryS PM.std) (laws_szKidMarkS PM.std) n) (N := PM.std.fuel) cx_ok (.cons laws_szIntS_g (.cons laws_szRowS_g (.cons laws_szEntryS_g (.cons laws_szKidMarkS_g .nil)))) mixed .nil laws_szKidRun_fn (by kernel_rfl) ⟨rfl, fun _ _ _ => rfl, fun n cur σ K r h => by cases h⟩
      ((laws_szKidRun_ok PM.std (laws_szIntS PM.std) (laws_szRowS PM.std) (laws_szEntryS PM.std) (laws_szKidMarkS PM.std) _ _ _ _ _ _ _ _ _ _ _ _ _ _ _ _ k).trans h)
  · cases h

abbrev laws_szKidRunS_T := (List (List PM.C)) → (Int) → ((Int) → PM.R) → PM.R
noncomputable def laws_szKidRunS_w (c : laws_szKidRunS_T) (ds : List PM.V) (k : PM.V → PM.R) : PM.R :=
  match ds with
  | [.arr (.rows 295 a), .int .i64 left] => c a left (fun r0 => k (.int .i64 r0))
  | _ => none
noncomputable def laws_szKidRunS_l0 (A : PM.Prims) (c_213 : laws_szKidRun_T) : Nat → (List (List C)) → (Int) → (Int) → ((Int) → PM.R) → ((Int) → PM.R) → PM.R
  | 0, _, _, _, _, _ => none
  | n + 1, a1, left2, i3, kret_0, kx0_0 =>
    bif (A.lt i3 (A.rlen a1)) then
      bif (A.inb i3 (A.rlen a1)) then
        c_213 (A.rint a1 i3 0) (A.rint a1 i3 1) (A.rint a1 i3 2) (A.rint a1 i3 3) (A.rint a1 i3 4) (A.rint a1 i3 5) (A.rsi a1 i3 6) (A.rsv 3 a1 i3 7) (A.rsv 2 a1 i3 8) (A.rsr a1 i3 9) (A.rbool a1 i3 10) (A.rint a1 i3 11) (A.rint a1 i3 12) (A.rint a1 i3 13) (A.rint a1 i3 14) left2 (fun r4 =>
          bif (A.lt r4 0) then
            kret_0 (-1)
          else
            laws_szKidRunS_l0 A c_213 n a1 r4 (A.add .i64 i3 1) kret_0 kx0_0)
      else
        none
    else
      kx0_0 left2
noncomputable def laws_szKidRunS_f (A : PM.Prims) (c_213 : laws_szKidRun_T) (a : List (List PM.C)) (left : Int) (k : (Int) → PM.R) : PM.R :=
  bif (A.lt (A.sub .i64 left (A.rlen a)) 0) then
    k (-1)
  else
    laws_szKidRunS_l0 A c_213 A.fuel a (A.sub .i64 left (A.rlen a)) 0 (fun t457 =>
      k t457) (fun left68 =>
      k left68)
noncomputable def laws_szKidRunS (A : PM.Prims) : laws_szKidRunS_T := laws_szKidRunS_f A (laws_szKidRun A)
noncomputable def laws_szKidRunS_L (A : PM.Prims) (c_213 : laws_szKidRun_T) (n : Nat) : PM.Lam := fun cur σ K =>
  match cur, σ, K with
  | 0, ⟨[(0, .arr (.rows 295 a1)), (1, .int .i64 left2), (5, .int .i64 i3)], []⟩, K => laws_szKidRunS_l0 A c_213 n a1 left2 i3 (fun t45 => K .ret ⟨[(4, .int .i64 t45)], []⟩) (fun left6 => K (.exit 0) ⟨[(1, .int .i64 left6)], []⟩)
  | _, _, _ => none
noncomputable def laws_szKidRunS_E (A : PM.Prims) (c_213 : laws_szKidRun_T) : PM.Env := ⟨[(213, ⟨[], laws_szKidRun_w c_213, none⟩)], [], [(0, [0, 1, 5], [1, 4])], [(0, [0, 1]), (1, [0, 1]), (2, [0, 1, 11]), (3, [4]), (4, [0, 1, 5]), (5, [0, 1, 5, 15]), (6, [0, 1, 5]), (7, [0, 1, 5]), (8, [0, 1, 5, 25]), (9, [4]), (10, [4])], laws_szKidRunS_L A c_213 A.fuel⟩
theorem laws_szKidRunS_l0_ok (A : PM.Prims) (c_213 : laws_szKidRun_T) (n : Nat) (a1 : List (List C)) (left2 : Int) (i3 : Int) (K : Go.Exit → PM.S → PM.R) : laws_szKidRunS_L A c_213 (n + 1) 0 ⟨[(0, .arr (.rows 295 a1)), (1, .int .i64 left2), (5, .int .i64 i3)], []⟩ K = PM.roundF A cx (PM.runD A cx (laws_szKidRunS_E A c_213).inl (laws_szKidRunS_E A c_213).Γ 3) (laws_szKidRunS_E A c_213) (laws_szKidRunS_L A c_213 n) 0 Go.Proofs.Try.f149 ⟨[(0, .arr (.rows 295 a1)), (1, .int .i64 left2), (5, .int .i64 i3)], []⟩ K := by kernel_rfl
theorem laws_szKidRunS_ok (A : PM.Prims) (c_213 : laws_szKidRun_T) (a : List (List PM.C)) (left : Int) (k : PM.V → PM.R) : PM.pfun A cx [] (laws_szKidRunS_E A c_213) Go.Proofs.Try.f149 [.arr (.rows 295 a), .int .i64 left] k = laws_szKidRunS_f A c_213 a left (fun r0 => k (.int .i64 r0)) := by kernel_rfl

theorem laws_szKidRunS_fn : PM.FnIs Try.prog 149 Try.f149 := .of Try.func149 (by kernel_rfl) (by kernel_rfl)
theorem laws_szKidRunS_g : PM.GOk Try.prog cx 149 ⟨[], laws_szKidRunS_w (laws_szKidRunS PM.std), none⟩ := by
  refine ⟨laws_szKidRunS_fn.enter, fun _ ds k r h => ?_, fun hm => absurd rfl hm, fun _ e => (by cases e)⟩
  change laws_szKidRunS_w (laws_szKidRunS PM.std) ds k = some r at h
  unfold laws_szKidRunS_w at h
  split at h
  · exact PM.pfun_ok (E := laws_szKidRunS_E PM.std (laws_szKidRun PM.std)) (L := fun n => laws_szKidRunS_L PM.std (laws_szKidRun PM.std) n) (N := PM.std.fuel) cx_ok (.cons laws_szKidRun_g .nil) mixed .nil laws_szKidRunS_fn (by kernel_rfl) ⟨rfl, fun cur σ K => by
      dsimp only [laws_szKidRunS_L]
      split <;> rfl, fun n cur σ K r h => by
      dsimp only [laws_szKidRunS_L] at h
      split at h
      · exact (laws_szKidRunS_l0_ok PM.std (laws_szKidRun PM.std) n _ _ _ K).symm.trans h
      · cases h⟩
      ((laws_szKidRunS_ok PM.std (laws_szKidRun PM.std) _ _ k).trans h)
  · cases h

abbrev laws_szFamily_T := (Int) → (Int) → (Int) → (Bool) → (List Int) → (List (List Int)) → (List (List Int)) → (List Int) → (List (List Int)) → (List (List PM.C)) → (Int) → ((Int) → PM.R) → PM.R
noncomputable def laws_szFamily_w (c : laws_szFamily_T) (ds : List PM.V) (k : PM.V → PM.R) : PM.R :=
  match ds with
  | [.agg [.int .i64 a_Rv, .int .i64 a_Clock, .int .i64 a_Owner, .bool a_Lost, .arr (.ints 3 .i64 a_Regs), .arr (.vecs 297 2 a_Start), .arr (.vecs 299 3 a_Buf), .arr (.ints 3 .i64 a_Order), .arr (.vecs 297 2 a_Reads), .arr (.rows 295 a_Kids)], .int .i64 left] => c a_Rv a_Clock a_Owner a_Lost a_Regs a_Start a_Buf a_Order a_Reads a_Kids left (fun r0 => k (.int .i64 r0))
  | _ => none
noncomputable def laws_szFamily_f (A : PM.Prims) (c_146 : laws_szIntS_T) (c_147 : laws_szRowS_T) (c_148 : laws_szEntryS_T) (c_149 : laws_szKidRunS_T) (a_Rv : Int) (a_Clock : Int) (a_Owner : Int) (a_Lost : Bool) (a_Regs : List Int) (a_Start : List (List Int)) (a_Buf : List (List Int)) (a_Order : List Int) (a_Reads : List (List Int)) (a_Kids : List (List PM.C)) (left : Int) (k : (Int) → PM.R) : PM.R :=
  c_146 a_Regs left (fun r1 =>
    bif (A.lt r1 0) then
      k (-1)
    else
      c_147 a_Start r1 (fun r2 =>
        bif (A.lt r2 0) then
          k (-1)
        else
          c_148 a_Buf r2 (fun r3 =>
            bif (A.lt r3 0) then
              k (-1)
            else
              c_146 a_Order r3 (fun r4 =>
                bif (A.lt r4 0) then
                  k (-1)
                else
                  c_147 a_Reads r4 (fun r5 =>
                    bif (A.lt r5 0) then
                      k (-1)
                    else
                      c_149 a_Kids r5 (fun r6 =>
                        bif (A.lt r6 0) then
                          k (-1)
                        else
                          k r6))))))
noncomputable def laws_szFamily (A : PM.Prims) : laws_szFamily_T := laws_szFamily_f A (laws_szIntS A) (laws_szRowS A) (laws_szEntryS A) (laws_szKidRunS A)
noncomputable def laws_szFamily_L (A : PM.Prims) (c_146 : laws_szIntS_T) (c_147 : laws_szRowS_T) (c_148 : laws_szEntryS_T) (c_149 : laws_szKidRunS_T) (n : Nat) : PM.Lam := fun cur σ K =>
  match cur, σ, K with
  | _, _, _ => none
noncomputable def laws_szFamily_E (A : PM.Prims) (c_146 : laws_szIntS_T) (c_147 : laws_szRowS_T) (c_148 : laws_szEntryS_T) (c_149 : laws_szKidRunS_T) : PM.Env := ⟨[(146, ⟨[], laws_szIntS_w c_146, none⟩), (147, ⟨[], laws_szRowS_w c_147, none⟩), (148, ⟨[], laws_szEntryS_w c_148, none⟩), (149, ⟨[], laws_szKidRunS_w c_149, none⟩)], [], [], [(0, [1, 2]), (1, [1, 2]), (2, [1, 2, 10]), (3, [4]), (4, [1, 2]), (5, [1, 2, 16]), (6, [4]), (7, [1, 2]), (8, [1, 2, 22]), (9, [4]), (10, [1, 2]), (11, [1, 2, 28]), (12, [4]), (13, [1, 2]), (14, [1, 2, 34]), (15, [4]), (16, [1]), (17, [1, 40]), (18, [4]), (19, [4])], laws_szFamily_L A c_146 c_147 c_148 c_149 A.fuel⟩
theorem laws_szFamily_ok (A : PM.Prims) (c_146 : laws_szIntS_T) (c_147 : laws_szRowS_T) (c_148 : laws_szEntryS_T) (c_149 : laws_szKidRunS_T) (a_Rv : Int) (a_Clock : Int) (a_Owner : Int) (a_Lost : Bool) (a_Regs : List Int) (a_Start : List (List Int)) (a_Buf : List (List Int)) (a_Order : List Int) (a_Reads : List (List Int)) (a_Kids : List (List PM.C)) (left : Int) (k : PM.V → PM.R) : PM.pfun A cx [] (laws_szFamily_E A c_146 c_147 c_148 c_149) Go.Proofs.Try.f57 [.agg [.int .i64 a_Rv, .int .i64 a_Clock, .int .i64 a_Owner, .bool a_Lost, .arr (.ints 3 .i64 a_Regs), .arr (.vecs 297 2 a_Start), .arr (.vecs 299 3 a_Buf), .arr (.ints 3 .i64 a_Order), .arr (.vecs 297 2 a_Reads), .arr (.rows 295 a_Kids)], .int .i64 left] k = laws_szFamily_f A c_146 c_147 c_148 c_149 a_Rv a_Clock a_Owner a_Lost a_Regs a_Start a_Buf a_Order a_Reads a_Kids left (fun r0 => k (.int .i64 r0)) := by kernel_rfl

theorem laws_szFamily_fn : PM.FnIs Try.prog 57 Try.f57 := .of Try.func57 (by kernel_rfl) (by kernel_rfl)
theorem laws_szFamily_g : PM.GOk Try.prog cx 57 ⟨[], laws_szFamily_w (laws_szFamily PM.std), none⟩ := by
  refine ⟨laws_szFamily_fn.enter, fun _ ds k r h => ?_, fun hm => absurd rfl hm, fun _ e => (by cases e)⟩
  change laws_szFamily_w (laws_szFamily PM.std) ds k = some r at h
  unfold laws_szFamily_w at h
  split at h
  · exact PM.pfun_ok (E := laws_szFamily_E PM.std (laws_szIntS PM.std) (laws_szRowS PM.std) (laws_szEntryS PM.std) (laws_szKidRunS PM.std)) (L := fun n => laws_szFamily_L PM.std (laws_szIntS PM.std) (laws_szRowS PM.std) (laws_szEntryS PM.std) (laws_szKidRunS PM.std) n) (N := PM.std.fuel) cx_ok (.cons laws_szIntS_g (.cons laws_szRowS_g (.cons laws_szEntryS_g (.cons laws_szKidRunS_g .nil)))) mixed .nil laws_szFamily_fn (by kernel_rfl) ⟨rfl, fun _ _ _ => rfl, fun n cur σ K r h => by cases h⟩
      ((laws_szFamily_ok PM.std (laws_szIntS PM.std) (laws_szRowS PM.std) (laws_szEntryS PM.std) (laws_szKidRunS PM.std) _ _ _ _ _ _ _ _ _ _ _ k).trans h)
  · cases h

abbrev laws_toIntS_T := (List Int) → ((List Int) → PM.R) → PM.R
noncomputable def laws_toIntS_w (c : laws_toIntS_T) (ds : List PM.V) (k : PM.V → PM.R) : PM.R :=
  match ds with
  | [.arr (.ints 3 .i64 a)] => c a (fun r0 => k (.arr (.ints 3 .i64 r0)))
  | _ => none
noncomputable def laws_toIntS_l0 (A : PM.Prims) : Nat → (List Int) → (Int) → (List Int) → ((List Int) → PM.R) → PM.R
  | 0, _, _, _, _ => none
  | n + 1, a1, i2, o03, kx0_0 =>
    bif (A.lt i2 (A.ilen a1)) then
      bif (A.inb i2 (A.ilen a1)) then
        bif (A.inb i2 (A.ilen o03)) then
          laws_toIntS_l0 A n a1 (A.add .i64 i2 1) (A.iset o03 i2 (A.iget a1 i2)) kx0_0
        else
          none
      else
        none
    else
      kx0_0 o03
noncomputable def laws_toIntS_f (A : PM.Prims) (a : List Int) (k : (List Int) → PM.R) : PM.R :=
  bif (A.mkOk (A.ilen a)) then
    bif (A.le (A.ilen a) (A.ilen a)) then
      bif (A.mkOk (A.ilen a)) then
        laws_toIntS_l0 A A.fuel a 0 (A.izero (A.ilen a)) (fun o045 =>
          k o045)
      else
        none
    else
      none
  else
    none
noncomputable def laws_toIntS (A : PM.Prims) : laws_toIntS_T := laws_toIntS_f A
noncomputable def laws_toIntS_L (A : PM.Prims) (n : Nat) : PM.Lam := fun cur σ K =>
  match cur, σ, K with
  | 0, ⟨[(0, .arr (.ints 3 .i64 a1)), (3, .sref 0), (4, .int .i64 i2)], [(0, .arr true (.ints 3 .i64 o03))]⟩, K => laws_toIntS_l0 A n a1 i2 o03 (fun o04 => K (.exit 0) ⟨[(3, .sref 0)], [(0, .arr true (.ints 3 .i64 o04))]⟩)
  | _, _, _ => none
noncomputable def laws_toIntS_E (A : PM.Prims) : PM.Env := ⟨[], [], [(0, [0, 3, 4], [2, 3])], [(0, [0]), (1, [0, 3]), (2, [0, 3, 4]), (3, [0, 3, 4, 11]), (4, [0, 3, 4]), (5, [0, 3, 4]), (6, [2])], laws_toIntS_L A A.fuel⟩
theorem laws_toIntS_l0_ok (A : PM.Prims) (n : Nat) (a1 : List Int) (i2 : Int) (o03 : List Int) (K : Go.Exit → PM.S → PM.R) : laws_toIntS_L A (n + 1) 0 ⟨[(0, .arr (.ints 3 .i64 a1)), (3, .sref 0), (4, .int .i64 i2)], [(0, .arr true (.ints 3 .i64 o03))]⟩ K = PM.roundF A cx (PM.runD A cx (laws_toIntS_E A).inl (laws_toIntS_E A).Γ 3) (laws_toIntS_E A) (laws_toIntS_L A n) 0 Go.Proofs.Try.f37 ⟨[(0, .arr (.ints 3 .i64 a1)), (3, .sref 0), (4, .int .i64 i2)], [(0, .arr true (.ints 3 .i64 o03))]⟩ K := by kernel_rfl
theorem laws_toIntS_ok (A : PM.Prims) (a : List Int) (k : PM.V → PM.R) : PM.pfun A cx [] (laws_toIntS_E A) Go.Proofs.Try.f37 [.arr (.ints 3 .i64 a)] k = laws_toIntS_f A a (fun r0 => k (.arr (.ints 3 .i64 r0))) := by kernel_rfl

theorem laws_toIntS_fn : PM.FnIs Try.prog 37 Try.f37 := .of Try.func37 (by kernel_rfl) (by kernel_rfl)
theorem laws_toIntS_g : PM.GOk Try.prog cx 37 ⟨[], laws_toIntS_w (laws_toIntS PM.std), none⟩ := by
  refine ⟨laws_toIntS_fn.enter, fun _ ds k r h => ?_, fun hm => absurd rfl hm, fun _ e => (by cases e)⟩
  change laws_toIntS_w (laws_toIntS PM.std) ds k = some r at h
  unfold laws_toIntS_w at h
  split at h
  · exact PM.pfun_ok (E := laws_toIntS_E PM.std) (L := fun n => laws_toIntS_L PM.std n) (N := PM.std.fuel) cx_ok .nil mixed .nil laws_toIntS_fn (by kernel_rfl) ⟨rfl, fun cur σ K => by
      dsimp only [laws_toIntS_L]
      split <;> rfl, fun n cur σ K r h => by
      dsimp only [laws_toIntS_L] at h
      split at h
      · exact (laws_toIntS_l0_ok PM.std n _ _ _ K).symm.trans h
      · cases h⟩
      ((laws_toIntS_ok PM.std _ k).trans h)
  · cases h

abbrev laws_toRow_T := (Int) → (Int) → ((Int) → (Int) → PM.R) → PM.R
noncomputable def laws_toRow_w (c : laws_toRow_T) (ds : List PM.V) (k : PM.V → PM.R) : PM.R :=
  match ds with
  | [.agg [.int .i64 a_Cell, .int .i64 a_Val]] => c a_Cell a_Val (fun r0_Cell r0_Val => k (.agg [.int .i64 r0_Cell, .int .i64 r0_Val]))
  | _ => none
noncomputable def laws_toRow_f (A : PM.Prims) (a_Cell : Int) (a_Val : Int) (k : (Int) → (Int) → PM.R) : PM.R :=
  k a_Cell a_Val
noncomputable def laws_toRow (A : PM.Prims) : laws_toRow_T := laws_toRow_f A
noncomputable def laws_toRow_L (A : PM.Prims) (n : Nat) : PM.Lam := fun cur σ K =>
  match cur, σ, K with
  | _, _, _ => none
noncomputable def laws_toRow_E (A : PM.Prims) : PM.Env := ⟨[], [], [], [(0, [1, 2]), (1, [1, 2, 3]), (2, [1, 2, 3]), (3, [2, 3]), (4, [2])], laws_toRow_L A A.fuel⟩
theorem laws_toRow_ok (A : PM.Prims) (a_Cell : Int) (a_Val : Int) (k : PM.V → PM.R) : PM.pfun A cx [] (laws_toRow_E A) Go.Proofs.Try.f214 [.agg [.int .i64 a_Cell, .int .i64 a_Val]] k = laws_toRow_f A a_Cell a_Val (fun r0_Cell r0_Val => k (.agg [.int .i64 r0_Cell, .int .i64 r0_Val])) := by kernel_rfl

theorem laws_toRow_fn : PM.FnIs Try.prog 214 Try.f214 := .of Try.func214 (by kernel_rfl) (by kernel_rfl)
theorem laws_toRow_g : PM.GOk Try.prog cx 214 ⟨[], laws_toRow_w (laws_toRow PM.std), none⟩ := by
  refine ⟨laws_toRow_fn.enter, fun _ ds k r h => ?_, fun hm => absurd rfl hm, fun _ e => (by cases e)⟩
  change laws_toRow_w (laws_toRow PM.std) ds k = some r at h
  unfold laws_toRow_w at h
  split at h
  · exact PM.pfun_ok (E := laws_toRow_E PM.std) (L := fun n => laws_toRow_L PM.std n) (N := PM.std.fuel) cx_ok .nil mixed .nil laws_toRow_fn (by kernel_rfl) ⟨rfl, fun _ _ _ => rfl, fun n cur σ K r h => by cases h⟩
      ((laws_toRow_ok PM.std _ _ k).trans h)
  · cases h

abbrev laws_toRowS_T := (List (List Int)) → ((List (List Int)) → PM.R) → PM.R
noncomputable def laws_toRowS_w (c : laws_toRowS_T) (ds : List PM.V) (k : PM.V → PM.R) : PM.R :=
  match ds with
  | [.arr (.vecs 297 2 a)] => c a (fun r0 => k (.arr (.vecs 161 2 r0)))
  | _ => none
noncomputable def laws_toRowS_l0 (A : PM.Prims) (c_214 : laws_toRow_T) : Nat → (List (List Int)) → (Int) → (List (List Int)) → ((List (List Int)) → PM.R) → PM.R
  | 0, _, _, _, _ => none
  | n + 1, a1, i2, o03, kx0_0 =>
    bif (A.lt i2 (A.vlen a1)) then
      bif (A.inb i2 (A.vlen a1)) then
        c_214 (A.vget a1 i2 0) (A.vget a1 i2 1) (fun r4 r5 =>
          bif (A.inb i2 (A.vlen o03)) then
            laws_toRowS_l0 A c_214 n a1 (A.add .i64 i2 1) (A.vput o03 i2 [r4, r5]) kx0_0
          else
            none)
      else
        none
    else
      kx0_0 o03
noncomputable def laws_toRowS_f (A : PM.Prims) (c_214 : laws_toRow_T) (a : List (List Int)) (k : (List (List Int)) → PM.R) : PM.R :=
  bif (A.mkOk (A.vlen a)) then
    bif (A.le (A.vlen a) (A.vlen a)) then
      bif (A.mkOk (A.vlen a)) then
        laws_toRowS_l0 A c_214 A.fuel a 0 (A.vzero 2 (A.vlen a)) (fun o067 =>
          k o067)
      else
        none
    else
      none
  else
    none
noncomputable def laws_toRowS (A : PM.Prims) : laws_toRowS_T := laws_toRowS_f A (laws_toRow A)
noncomputable def laws_toRowS_L (A : PM.Prims) (c_214 : laws_toRow_T) (n : Nat) : PM.Lam := fun cur σ K =>
  match cur, σ, K with
  | 0, ⟨[(0, .arr (.vecs 297 2 a1)), (3, .sref 0), (4, .int .i64 i2)], [(0, .arr true (.vecs 161 2 o03))]⟩, K => laws_toRowS_l0 A c_214 n a1 i2 o03 (fun o06 => K (.exit 0) ⟨[(3, .sref 0)], [(0, .arr true (.vecs 161 2 o06))]⟩)
  | _, _, _ => none
noncomputable def laws_toRowS_E (A : PM.Prims) (c_214 : laws_toRow_T) : PM.Env := ⟨[(214, ⟨[], laws_toRow_w c_214, none⟩)], [], [(0, [0, 3, 4], [2, 3])], [(0, [0]), (1, [0, 3]), (2, [0, 3, 4]), (3, [0, 3, 4, 11]), (4, [0, 3, 4]), (5, [0, 3, 4]), (6, [2])], laws_toRowS_L A c_214 A.fuel⟩
theorem laws_toRowS_l0_ok (A : PM.Prims) (c_214 : laws_toRow_T) (n : Nat) (a1 : List (List Int)) (i2 : Int) (o03 : List (List Int)) (K : Go.Exit → PM.S → PM.R) : laws_toRowS_L A c_214 (n + 1) 0 ⟨[(0, .arr (.vecs 297 2 a1)), (3, .sref 0), (4, .int .i64 i2)], [(0, .arr true (.vecs 161 2 o03))]⟩ K = PM.roundF A cx (PM.runD A cx (laws_toRowS_E A c_214).inl (laws_toRowS_E A c_214).Γ 3) (laws_toRowS_E A c_214) (laws_toRowS_L A c_214 n) 0 Go.Proofs.Try.f150 ⟨[(0, .arr (.vecs 297 2 a1)), (3, .sref 0), (4, .int .i64 i2)], [(0, .arr true (.vecs 161 2 o03))]⟩ K := by kernel_rfl
theorem laws_toRowS_ok (A : PM.Prims) (c_214 : laws_toRow_T) (a : List (List Int)) (k : PM.V → PM.R) : PM.pfun A cx [] (laws_toRowS_E A c_214) Go.Proofs.Try.f150 [.arr (.vecs 297 2 a)] k = laws_toRowS_f A c_214 a (fun r0 => k (.arr (.vecs 161 2 r0))) := by kernel_rfl

theorem laws_toRowS_fn : PM.FnIs Try.prog 150 Try.f150 := .of Try.func150 (by kernel_rfl) (by kernel_rfl)
theorem laws_toRowS_g : PM.GOk Try.prog cx 150 ⟨[], laws_toRowS_w (laws_toRowS PM.std), none⟩ := by
  refine ⟨laws_toRowS_fn.enter, fun _ ds k r h => ?_, fun hm => absurd rfl hm, fun _ e => (by cases e)⟩
  change laws_toRowS_w (laws_toRowS PM.std) ds k = some r at h
  unfold laws_toRowS_w at h
  split at h
  · exact PM.pfun_ok (E := laws_toRowS_E PM.std (laws_toRow PM.std)) (L := fun n => laws_toRowS_L PM.std (laws_toRow PM.std) n) (N := PM.std.fuel) cx_ok (.cons laws_toRow_g .nil) mixed .nil laws_toRowS_fn (by kernel_rfl) ⟨rfl, fun cur σ K => by
      dsimp only [laws_toRowS_L]
      split <;> rfl, fun n cur σ K r h => by
      dsimp only [laws_toRowS_L] at h
      split at h
      · exact (laws_toRowS_l0_ok PM.std (laws_toRow PM.std) n _ _ _ K).symm.trans h
      · cases h⟩
      ((laws_toRowS_ok PM.std (laws_toRow PM.std) _ k).trans h)
  · cases h

abbrev laws_toEntry_T := (Int) → (Int) → (Int) → ((Int) → (Int) → (Int) → PM.R) → PM.R
noncomputable def laws_toEntry_w (c : laws_toEntry_T) (ds : List PM.V) (k : PM.V → PM.R) : PM.R :=
  match ds with
  | [.agg [.int .i64 a_Cell, .int .i64 a_Val, .int .i64 a_Ver]] => c a_Cell a_Val a_Ver (fun r0_Cell r0_Val r0_Ver => k (.agg [.int .i64 r0_Cell, .int .i64 r0_Val, .int .i64 r0_Ver]))
  | _ => none
noncomputable def laws_toEntry_f (A : PM.Prims) (a_Cell : Int) (a_Val : Int) (a_Ver : Int) (k : (Int) → (Int) → (Int) → PM.R) : PM.R :=
  k a_Cell a_Val a_Ver
noncomputable def laws_toEntry (A : PM.Prims) : laws_toEntry_T := laws_toEntry_f A
noncomputable def laws_toEntry_L (A : PM.Prims) (n : Nat) : PM.Lam := fun cur σ K =>
  match cur, σ, K with
  | _, _, _ => none
noncomputable def laws_toEntry_E (A : PM.Prims) : PM.Env := ⟨[], [], [], [(0, [1, 2]), (1, [1, 2, 3]), (2, [1, 2, 3]), (3, [1, 2, 3]), (4, [2, 3]), (5, [2])], laws_toEntry_L A A.fuel⟩
theorem laws_toEntry_ok (A : PM.Prims) (a_Cell : Int) (a_Val : Int) (a_Ver : Int) (k : PM.V → PM.R) : PM.pfun A cx [] (laws_toEntry_E A) Go.Proofs.Try.f215 [.agg [.int .i64 a_Cell, .int .i64 a_Val, .int .i64 a_Ver]] k = laws_toEntry_f A a_Cell a_Val a_Ver (fun r0_Cell r0_Val r0_Ver => k (.agg [.int .i64 r0_Cell, .int .i64 r0_Val, .int .i64 r0_Ver])) := by kernel_rfl

theorem laws_toEntry_fn : PM.FnIs Try.prog 215 Try.f215 := .of Try.func215 (by kernel_rfl) (by kernel_rfl)
theorem laws_toEntry_g : PM.GOk Try.prog cx 215 ⟨[], laws_toEntry_w (laws_toEntry PM.std), none⟩ := by
  refine ⟨laws_toEntry_fn.enter, fun _ ds k r h => ?_, fun hm => absurd rfl hm, fun _ e => (by cases e)⟩
  change laws_toEntry_w (laws_toEntry PM.std) ds k = some r at h
  unfold laws_toEntry_w at h
  split at h
  · exact PM.pfun_ok (E := laws_toEntry_E PM.std) (L := fun n => laws_toEntry_L PM.std n) (N := PM.std.fuel) cx_ok .nil mixed .nil laws_toEntry_fn (by kernel_rfl) ⟨rfl, fun _ _ _ => rfl, fun n cur σ K r h => by cases h⟩
      ((laws_toEntry_ok PM.std _ _ _ k).trans h)
  · cases h

abbrev laws_toEntryS_T := (List (List Int)) → ((List (List Int)) → PM.R) → PM.R
noncomputable def laws_toEntryS_w (c : laws_toEntryS_T) (ds : List PM.V) (k : PM.V → PM.R) : PM.R :=
  match ds with
  | [.arr (.vecs 299 3 a)] => c a (fun r0 => k (.arr (.vecs 225 3 r0)))
  | _ => none
noncomputable def laws_toEntryS_l0 (A : PM.Prims) (c_215 : laws_toEntry_T) : Nat → (List (List Int)) → (Int) → (List (List Int)) → ((List (List Int)) → PM.R) → PM.R
  | 0, _, _, _, _ => none
  | n + 1, a1, i2, o03, kx0_0 =>
    bif (A.lt i2 (A.vlen a1)) then
      bif (A.inb i2 (A.vlen a1)) then
        c_215 (A.vget a1 i2 0) (A.vget a1 i2 1) (A.vget a1 i2 2) (fun r4 r5 r6 =>
          bif (A.inb i2 (A.vlen o03)) then
            laws_toEntryS_l0 A c_215 n a1 (A.add .i64 i2 1) (A.vput o03 i2 [r4, r5, r6]) kx0_0
          else
            none)
      else
        none
    else
      kx0_0 o03
noncomputable def laws_toEntryS_f (A : PM.Prims) (c_215 : laws_toEntry_T) (a : List (List Int)) (k : (List (List Int)) → PM.R) : PM.R :=
  bif (A.mkOk (A.vlen a)) then
    bif (A.le (A.vlen a) (A.vlen a)) then
      bif (A.mkOk (A.vlen a)) then
        laws_toEntryS_l0 A c_215 A.fuel a 0 (A.vzero 3 (A.vlen a)) (fun o078 =>
          k o078)
      else
        none
    else
      none
  else
    none
noncomputable def laws_toEntryS (A : PM.Prims) : laws_toEntryS_T := laws_toEntryS_f A (laws_toEntry A)
noncomputable def laws_toEntryS_L (A : PM.Prims) (c_215 : laws_toEntry_T) (n : Nat) : PM.Lam := fun cur σ K =>
  match cur, σ, K with
  | 0, ⟨[(0, .arr (.vecs 299 3 a1)), (3, .sref 0), (4, .int .i64 i2)], [(0, .arr true (.vecs 225 3 o03))]⟩, K => laws_toEntryS_l0 A c_215 n a1 i2 o03 (fun o07 => K (.exit 0) ⟨[(3, .sref 0)], [(0, .arr true (.vecs 225 3 o07))]⟩)
  | _, _, _ => none
noncomputable def laws_toEntryS_E (A : PM.Prims) (c_215 : laws_toEntry_T) : PM.Env := ⟨[(215, ⟨[], laws_toEntry_w c_215, none⟩)], [], [(0, [0, 3, 4], [2, 3])], [(0, [0]), (1, [0, 3]), (2, [0, 3, 4]), (3, [0, 3, 4, 11]), (4, [0, 3, 4]), (5, [0, 3, 4]), (6, [2])], laws_toEntryS_L A c_215 A.fuel⟩
theorem laws_toEntryS_l0_ok (A : PM.Prims) (c_215 : laws_toEntry_T) (n : Nat) (a1 : List (List Int)) (i2 : Int) (o03 : List (List Int)) (K : Go.Exit → PM.S → PM.R) : laws_toEntryS_L A c_215 (n + 1) 0 ⟨[(0, .arr (.vecs 299 3 a1)), (3, .sref 0), (4, .int .i64 i2)], [(0, .arr true (.vecs 225 3 o03))]⟩ K = PM.roundF A cx (PM.runD A cx (laws_toEntryS_E A c_215).inl (laws_toEntryS_E A c_215).Γ 3) (laws_toEntryS_E A c_215) (laws_toEntryS_L A c_215 n) 0 Go.Proofs.Try.f151 ⟨[(0, .arr (.vecs 299 3 a1)), (3, .sref 0), (4, .int .i64 i2)], [(0, .arr true (.vecs 225 3 o03))]⟩ K := by kernel_rfl
theorem laws_toEntryS_ok (A : PM.Prims) (c_215 : laws_toEntry_T) (a : List (List Int)) (k : PM.V → PM.R) : PM.pfun A cx [] (laws_toEntryS_E A c_215) Go.Proofs.Try.f151 [.arr (.vecs 299 3 a)] k = laws_toEntryS_f A c_215 a (fun r0 => k (.arr (.vecs 225 3 r0))) := by kernel_rfl

theorem laws_toEntryS_fn : PM.FnIs Try.prog 151 Try.f151 := .of Try.func151 (by kernel_rfl) (by kernel_rfl)
theorem laws_toEntryS_g : PM.GOk Try.prog cx 151 ⟨[], laws_toEntryS_w (laws_toEntryS PM.std), none⟩ := by
  refine ⟨laws_toEntryS_fn.enter, fun _ ds k r h => ?_, fun hm => absurd rfl hm, fun _ e => (by cases e)⟩
  change laws_toEntryS_w (laws_toEntryS PM.std) ds k = some r at h
  unfold laws_toEntryS_w at h
  split at h
  · exact PM.pfun_ok (E := laws_toEntryS_E PM.std (laws_toEntry PM.std)) (L := fun n => laws_toEntryS_L PM.std (laws_toEntry PM.std) n) (N := PM.std.fuel) cx_ok (.cons laws_toEntry_g .nil) mixed .nil laws_toEntryS_fn (by kernel_rfl) ⟨rfl, fun cur σ K => by
      dsimp only [laws_toEntryS_L]
      split <;> rfl, fun n cur σ K r h => by
      dsimp only [laws_toEntryS_L] at h
      split at h
      · exact (laws_toEntryS_l0_ok PM.std (laws_toEntry PM.std) n _ _ _ K).symm.trans h
      · cases h⟩
      ((laws_toEntryS_ok PM.std (laws_toEntry PM.std) _ k).trans h)
  · cases h

abbrev laws_toKidMark_T := (Int) → (Int) → (List Int) → ((Int) → (Int) → (List Int) → PM.R) → PM.R
noncomputable def laws_toKidMark_w (c : laws_toKidMark_T) (ds : List PM.V) (k : PM.V → PM.R) : PM.R :=
  match ds with
  | [.agg [.int .i64 a_Pc, .int .i64 a_Writes, .arr (.ints 3 .i64 a_Regs)]] => c a_Pc a_Writes a_Regs (fun r0_Pc r0_Writes r0_Regs => k (.agg [.int .i64 r0_Pc, .int .i64 r0_Writes, .arr (.ints 3 .i64 r0_Regs)]))
  | _ => none
noncomputable def laws_toKidMark_f (A : PM.Prims) (c_37 : laws_toIntS_T) (a_Pc : Int) (a_Writes : Int) (a_Regs : List Int) (k : (Int) → (Int) → (List Int) → PM.R) : PM.R :=
  c_37 a_Regs (fun r1 =>
    k a_Pc a_Writes r1)
noncomputable def laws_toKidMark (A : PM.Prims) : laws_toKidMark_T := laws_toKidMark_f A (laws_toIntS A)
noncomputable def laws_toKidMark_L (A : PM.Prims) (c_37 : laws_toIntS_T) (n : Nat) : PM.Lam := fun cur σ K =>
  match cur, σ, K with
  | _, _, _ => none
noncomputable def laws_toKidMark_E (A : PM.Prims) (c_37 : laws_toIntS_T) : PM.Env := ⟨[(37, ⟨[], laws_toIntS_w c_37, none⟩)], [], [], [(0, [1, 2]), (1, [1, 2, 3]), (2, [1, 2, 3]), (3, [1, 2, 3]), (4, [2, 3]), (5, [2])], laws_toKidMark_L A c_37 A.fuel⟩
theorem laws_toKidMark_ok (A : PM.Prims) (c_37 : laws_toIntS_T) (a_Pc : Int) (a_Writes : Int) (a_Regs : List Int) (k : PM.V → PM.R) : PM.pfun A cx [] (laws_toKidMark_E A c_37) Go.Proofs.Try.f313 [.agg [.int .i64 a_Pc, .int .i64 a_Writes, .arr (.ints 3 .i64 a_Regs)]] k = laws_toKidMark_f A c_37 a_Pc a_Writes a_Regs (fun r0_Pc r0_Writes r0_Regs => k (.agg [.int .i64 r0_Pc, .int .i64 r0_Writes, .arr (.ints 3 .i64 r0_Regs)])) := by kernel_rfl

theorem laws_toKidMark_fn : PM.FnIs Try.prog 313 Try.f313 := .of Try.func313 (by kernel_rfl) (by kernel_rfl)
theorem laws_toKidMark_g : PM.GOk Try.prog cx 313 ⟨[], laws_toKidMark_w (laws_toKidMark PM.std), none⟩ := by
  refine ⟨laws_toKidMark_fn.enter, fun _ ds k r h => ?_, fun hm => absurd rfl hm, fun _ e => (by cases e)⟩
  change laws_toKidMark_w (laws_toKidMark PM.std) ds k = some r at h
  unfold laws_toKidMark_w at h
  split at h
  · exact PM.pfun_ok (E := laws_toKidMark_E PM.std (laws_toIntS PM.std)) (L := fun n => laws_toKidMark_L PM.std (laws_toIntS PM.std) n) (N := PM.std.fuel) cx_ok (.cons laws_toIntS_g .nil) mixed .nil laws_toKidMark_fn (by kernel_rfl) ⟨rfl, fun _ _ _ => rfl, fun n cur σ K r h => by cases h⟩
      ((laws_toKidMark_ok PM.std (laws_toIntS PM.std) _ _ _ k).trans h)
  · cases h

abbrev laws_toKidMarkS_T := (List (List PM.C)) → ((List (List PM.C)) → PM.R) → PM.R
noncomputable def laws_toKidMarkS_w (c : laws_toKidMarkS_T) (ds : List PM.V) (k : PM.V → PM.R) : PM.R :=
  match ds with
  | [.arr (.rows 405 a)] => c a (fun r0 => k (.arr (.rows 368 r0)))
  | _ => none
noncomputable def laws_toKidMarkS_l0 (A : PM.Prims) (c_313 : laws_toKidMark_T) : Nat → (List (List C)) → (Int) → (List (List C)) → ((List (List C)) → PM.R) → PM.R
  | 0, _, _, _, _ => none
  | n + 1, a1, i2, o03, kx0_0 =>
    bif (A.lt i2 (A.rlen a1)) then
      bif (A.inb i2 (A.rlen a1)) then
        c_313 (A.rint a1 i2 0) (A.rint a1 i2 1) (A.rsi a1 i2 2) (fun r4 r5 r6 =>
          bif (A.inb i2 (A.rlen o03)) then
            laws_toKidMarkS_l0 A c_313 n a1 (A.add .i64 i2 1) (A.rput o03 i2 [(.i r4), (.i r5), (.s (A.ofi r6))]) kx0_0
          else
            none)
      else
        none
    else
      kx0_0 o03
noncomputable def laws_toKidMarkS_f (A : PM.Prims) (c_313 : laws_toKidMark_T) (a : List (List PM.C)) (k : (List (List PM.C)) → PM.R) : PM.R :=
  bif (A.mkOk (A.rlen a)) then
    bif (A.le (A.rlen a) (A.rlen a)) then
      bif (A.mkOk (A.rlen a)) then
        laws_toKidMarkS_l0 A c_313 A.fuel a 0 (A.rzero [(.i 0), (.i 0), (.s (A.ofi []))] (A.rlen a)) (fun o078 =>
          k o078)
      else
        none
    else
      none
  else
    none
noncomputable def laws_toKidMarkS (A : PM.Prims) : laws_toKidMarkS_T := laws_toKidMarkS_f A (laws_toKidMark A)
noncomputable def laws_toKidMarkS_L (A : PM.Prims) (c_313 : laws_toKidMark_T) (n : Nat) : PM.Lam := fun cur σ K =>
  match cur, σ, K with
  | 0, ⟨[(0, .arr (.rows 405 a1)), (3, .sref 0), (4, .int .i64 i2)], [(0, .arr true (.rows 368 o03))]⟩, K => laws_toKidMarkS_l0 A c_313 n a1 i2 o03 (fun o07 => K (.exit 0) ⟨[(3, .sref 0)], [(0, .arr true (.rows 368 o07))]⟩)
  | _, _, _ => none
noncomputable def laws_toKidMarkS_E (A : PM.Prims) (c_313 : laws_toKidMark_T) : PM.Env := ⟨[(313, ⟨[], laws_toKidMark_w c_313, none⟩)], [], [(0, [0, 3, 4], [2, 3])], [(0, [0]), (1, [0, 3]), (2, [0, 3, 4]), (3, [0, 3, 4, 11]), (4, [0, 3, 4]), (5, [0, 3, 4]), (6, [2])], laws_toKidMarkS_L A c_313 A.fuel⟩
theorem laws_toKidMarkS_l0_ok (A : PM.Prims) (c_313 : laws_toKidMark_T) (n : Nat) (a1 : List (List C)) (i2 : Int) (o03 : List (List C)) (K : Go.Exit → PM.S → PM.R) : laws_toKidMarkS_L A c_313 (n + 1) 0 ⟨[(0, .arr (.rows 405 a1)), (3, .sref 0), (4, .int .i64 i2)], [(0, .arr true (.rows 368 o03))]⟩ K = PM.roundF A cx (PM.runD A cx (laws_toKidMarkS_E A c_313).inl (laws_toKidMarkS_E A c_313).Γ 3) (laws_toKidMarkS_E A c_313) (laws_toKidMarkS_L A c_313 n) 0 Go.Proofs.Try.f277 ⟨[(0, .arr (.rows 405 a1)), (3, .sref 0), (4, .int .i64 i2)], [(0, .arr true (.rows 368 o03))]⟩ K := by kernel_rfl
theorem laws_toKidMarkS_ok (A : PM.Prims) (c_313 : laws_toKidMark_T) (a : List (List PM.C)) (k : PM.V → PM.R) : PM.pfun A cx [] (laws_toKidMarkS_E A c_313) Go.Proofs.Try.f277 [.arr (.rows 405 a)] k = laws_toKidMarkS_f A c_313 a (fun r0 => k (.arr (.rows 368 r0))) := by kernel_rfl

theorem laws_toKidMarkS_fn : PM.FnIs Try.prog 277 Try.f277 := .of Try.func277 (by kernel_rfl) (by kernel_rfl)
theorem laws_toKidMarkS_g : PM.GOk Try.prog cx 277 ⟨[], laws_toKidMarkS_w (laws_toKidMarkS PM.std), none⟩ := by
  refine ⟨laws_toKidMarkS_fn.enter, fun _ ds k r h => ?_, fun hm => absurd rfl hm, fun _ e => (by cases e)⟩
  change laws_toKidMarkS_w (laws_toKidMarkS PM.std) ds k = some r at h
  unfold laws_toKidMarkS_w at h
  split at h
  · exact PM.pfun_ok (E := laws_toKidMarkS_E PM.std (laws_toKidMark PM.std)) (L := fun n => laws_toKidMarkS_L PM.std (laws_toKidMark PM.std) n) (N := PM.std.fuel) cx_ok (.cons laws_toKidMark_g .nil) mixed .nil laws_toKidMarkS_fn (by kernel_rfl) ⟨rfl, fun cur σ K => by
      dsimp only [laws_toKidMarkS_L]
      split <;> rfl, fun n cur σ K r h => by
      dsimp only [laws_toKidMarkS_L] at h
      split at h
      · exact (laws_toKidMarkS_l0_ok PM.std (laws_toKidMark PM.std) n _ _ _ K).symm.trans h
      · cases h⟩
      ((laws_toKidMarkS_ok PM.std (laws_toKidMark PM.std) _ k).trans h)
  · cases h

abbrev laws_toProbe_T := (Int) → (Int) → (Int) → (Int) → ((Int) → (Int) → (Int) → (Int) → PM.R) → PM.R
noncomputable def laws_toProbe_w (c : laws_toProbe_T) (ds : List PM.V) (k : PM.V → PM.R) : PM.R :=
  match ds with
  | [.agg [.int .i64 a_Cell, .int .i64 a_Phase, .int .i64 a_Ver, .int .i64 a_Val]] => c a_Cell a_Phase a_Ver a_Val (fun r0_Cell r0_Phase r0_Ver r0_Val => k (.agg [.int .i64 r0_Cell, .int .i64 r0_Phase, .int .i64 r0_Ver, .int .i64 r0_Val]))
  | _ => none
noncomputable def laws_toProbe_f (A : PM.Prims) (a_Cell : Int) (a_Phase : Int) (a_Ver : Int) (a_Val : Int) (k : (Int) → (Int) → (Int) → (Int) → PM.R) : PM.R :=
  k a_Cell a_Phase a_Ver a_Val
noncomputable def laws_toProbe (A : PM.Prims) : laws_toProbe_T := laws_toProbe_f A
noncomputable def laws_toProbe_L (A : PM.Prims) (n : Nat) : PM.Lam := fun cur σ K =>
  match cur, σ, K with
  | _, _, _ => none
noncomputable def laws_toProbe_E (A : PM.Prims) : PM.Env := ⟨[], [], [], [(0, [1, 2]), (1, [1, 2, 3]), (2, [1, 2, 3]), (3, [1, 2, 3]), (4, [1, 2, 3]), (5, [2, 3]), (6, [2])], laws_toProbe_L A A.fuel⟩
theorem laws_toProbe_ok (A : PM.Prims) (a_Cell : Int) (a_Phase : Int) (a_Ver : Int) (a_Val : Int) (k : PM.V → PM.R) : PM.pfun A cx [] (laws_toProbe_E A) Go.Proofs.Try.f269 [.agg [.int .i64 a_Cell, .int .i64 a_Phase, .int .i64 a_Ver, .int .i64 a_Val]] k = laws_toProbe_f A a_Cell a_Phase a_Ver a_Val (fun r0_Cell r0_Phase r0_Ver r0_Val => k (.agg [.int .i64 r0_Cell, .int .i64 r0_Phase, .int .i64 r0_Ver, .int .i64 r0_Val])) := by kernel_rfl

theorem laws_toProbe_fn : PM.FnIs Try.prog 269 Try.f269 := .of Try.func269 (by kernel_rfl) (by kernel_rfl)
theorem laws_toProbe_g : PM.GOk Try.prog cx 269 ⟨[], laws_toProbe_w (laws_toProbe PM.std), none⟩ := by
  refine ⟨laws_toProbe_fn.enter, fun _ ds k r h => ?_, fun hm => absurd rfl hm, fun _ e => (by cases e)⟩
  change laws_toProbe_w (laws_toProbe PM.std) ds k = some r at h
  unfold laws_toProbe_w at h
  split at h
  · exact PM.pfun_ok (E := laws_toProbe_E PM.std) (L := fun n => laws_toProbe_L PM.std n) (N := PM.std.fuel) cx_ok .nil mixed .nil laws_toProbe_fn (by kernel_rfl) ⟨rfl, fun _ _ _ => rfl, fun n cur σ K r h => by cases h⟩
      ((laws_toProbe_ok PM.std _ _ _ _ k).trans h)
  · cases h

abbrev laws_toKidRun_T := (Int) → (Int) → (Int) → (Int) → (Int) → (Int) → (List Int) → (List (List Int)) → (List (List Int)) → (List (List PM.C)) → (Bool) → (Int) → (Int) → (Int) → (Int) → ((Int) → (Int) → (Int) → (Int) → (Int) → (Int) → (List Int) → (List (List Int)) → (List (List Int)) → (List (List PM.C)) → (Bool) → (Int) → (Int) → (Int) → (Int) → PM.R) → PM.R
noncomputable def laws_toKidRun_w (c : laws_toKidRun_T) (ds : List PM.V) (k : PM.V → PM.R) : PM.R :=
  match ds with
  | [.agg [.int .i64 a_Phase, .int .i64 a_Pc, .int .i64 a_Since, .int .i64 a_Tries, .int .i64 a_At, .int .i64 a_Out, .arr (.ints 3 .i64 a_Regs), .arr (.vecs 299 3 a_Seen), .arr (.vecs 297 2 a_Writes), .arr (.rows 405 a_Marks), .bool a_Busy, .int .i64 a_Probe_Cell, .int .i64 a_Probe_Phase, .int .i64 a_Probe_Ver, .int .i64 a_Probe_Val]] => c a_Phase a_Pc a_Since a_Tries a_At a_Out a_Regs a_Seen a_Writes a_Marks a_Busy a_Probe_Cell a_Probe_Phase a_Probe_Ver a_Probe_Val (fun r0_Phase r0_Pc r0_Since r0_Tries r0_At r0_Out r0_Regs r0_Seen r0_Writes r0_Marks r0_Busy r0_Probe_Cell r0_Probe_Phase r0_Probe_Ver r0_Probe_Val => k (.agg [.int .i64 r0_Phase, .int .i64 r0_Pc, .int .i64 r0_Since, .int .i64 r0_Tries, .int .i64 r0_At, .int .i64 r0_Out, .arr (.ints 3 .i64 r0_Regs), .arr (.vecs 225 3 r0_Seen), .arr (.vecs 161 2 r0_Writes), .arr (.rows 368 r0_Marks), .bool r0_Busy, .int .i64 r0_Probe_Cell, .int .i64 r0_Probe_Phase, .int .i64 r0_Probe_Ver, .int .i64 r0_Probe_Val]))
  | _ => none
noncomputable def laws_toKidRun_f (A : PM.Prims) (c_37 : laws_toIntS_T) (c_150 : laws_toRowS_T) (c_269 : laws_toProbe_T) (c_151 : laws_toEntryS_T) (c_277 : laws_toKidMarkS_T) (a_Phase : Int) (a_Pc : Int) (a_Since : Int) (a_Tries : Int) (a_At : Int) (a_Out : Int) (a_Regs : List Int) (a_Seen : List (List Int)) (a_Writes : List (List Int)) (a_Marks : List (List PM.C)) (a_Busy : Bool) (a_Probe_Cell : Int) (a_Probe_Phase : Int) (a_Probe_Ver : Int) (a_Probe_Val : Int) (k : (Int) → (Int) → (Int) → (Int) → (Int) → (Int) → (List Int) → (List (List Int)) → (List (List Int)) → (List (List PM.C)) → (Bool) → (Int) → (Int) → (Int) → (Int) → PM.R) : PM.R :=
  c_37 a_Regs (fun r1 =>
    c_151 a_Seen (fun r2 =>
      c_150 a_Writes (fun r3 =>
        c_277 a_Marks (fun r4 =>
          c_269 a_Probe_Cell a_Probe_Phase a_Probe_Ver a_Probe_Val (fun r5 r6 r7 r8 =>
            k a_Phase a_Pc a_Since a_Tries a_At a_Out r1 r2 r3 r4 a_Busy r5 r6 r7 r8)))))
noncomputable def laws_toKidRun (A : PM.Prims) : laws_toKidRun_T := laws_toKidRun_f A (laws_toIntS A) (laws_toRowS A) (laws_toProbe A) (laws_toEntryS A) (laws_toKidMarkS A)
noncomputable def laws_toKidRun_L (A : PM.Prims) (c_37 : laws_toIntS_T) (c_150 : laws_toRowS_T) (c_269 : laws_toProbe_T) (c_151 : laws_toEntryS_T) (c_277 : laws_toKidMarkS_T) (n : Nat) : PM.Lam := fun cur σ K =>
  match cur, σ, K with
  | _, _, _ => none
noncomputable def laws_toKidRun_E (A : PM.Prims) (c_37 : laws_toIntS_T) (c_150 : laws_toRowS_T) (c_269 : laws_toProbe_T) (c_151 : laws_toEntryS_T) (c_277 : laws_toKidMarkS_T) : PM.Env := ⟨[(37, ⟨[], laws_toIntS_w c_37, none⟩), (150, ⟨[], laws_toRowS_w c_150, none⟩), (269, ⟨[], laws_toProbe_w c_269, none⟩), (151, ⟨[], laws_toEntryS_w c_151, none⟩), (277, ⟨[], laws_toKidMarkS_w c_277, none⟩)], [], [], [(0, [1, 2]), (1, [1, 2, 3]), (2, [1, 2, 3]), (3, [1, 2, 3]), (4, [1, 2, 3]), (5, [1, 2, 3]), (6, [1, 2, 3]), (7, [1, 2, 3]), (8, [1, 2, 3]), (9, [1, 2, 3]), (10, [1, 2, 3]), (11, [1, 2, 3]), (12, [1, 2, 3]), (13, [2, 3]), (14, [2])], laws_toKidRun_L A c_37 c_150 c_269 c_151 c_277 A.fuel⟩
theorem laws_toKidRun_ok (A : PM.Prims) (c_37 : laws_toIntS_T) (c_150 : laws_toRowS_T) (c_269 : laws_toProbe_T) (c_151 : laws_toEntryS_T) (c_277 : laws_toKidMarkS_T) (a_Phase : Int) (a_Pc : Int) (a_Since : Int) (a_Tries : Int) (a_At : Int) (a_Out : Int) (a_Regs : List Int) (a_Seen : List (List Int)) (a_Writes : List (List Int)) (a_Marks : List (List PM.C)) (a_Busy : Bool) (a_Probe_Cell : Int) (a_Probe_Phase : Int) (a_Probe_Ver : Int) (a_Probe_Val : Int) (k : PM.V → PM.R) : PM.pfun A cx [] (laws_toKidRun_E A c_37 c_150 c_269 c_151 c_277) Go.Proofs.Try.f216 [.agg [.int .i64 a_Phase, .int .i64 a_Pc, .int .i64 a_Since, .int .i64 a_Tries, .int .i64 a_At, .int .i64 a_Out, .arr (.ints 3 .i64 a_Regs), .arr (.vecs 299 3 a_Seen), .arr (.vecs 297 2 a_Writes), .arr (.rows 405 a_Marks), .bool a_Busy, .int .i64 a_Probe_Cell, .int .i64 a_Probe_Phase, .int .i64 a_Probe_Ver, .int .i64 a_Probe_Val]] k = laws_toKidRun_f A c_37 c_150 c_269 c_151 c_277 a_Phase a_Pc a_Since a_Tries a_At a_Out a_Regs a_Seen a_Writes a_Marks a_Busy a_Probe_Cell a_Probe_Phase a_Probe_Ver a_Probe_Val (fun r0_Phase r0_Pc r0_Since r0_Tries r0_At r0_Out r0_Regs r0_Seen r0_Writes r0_Marks r0_Busy r0_Probe_Cell r0_Probe_Phase r0_Probe_Ver r0_Probe_Val => k (.agg [.int .i64 r0_Phase, .int .i64 r0_Pc, .int .i64 r0_Since, .int .i64 r0_Tries, .int .i64 r0_At, .int .i64 r0_Out, .arr (.ints 3 .i64 r0_Regs), .arr (.vecs 225 3 r0_Seen), .arr (.vecs 161 2 r0_Writes), .arr (.rows 368 r0_Marks), .bool r0_Busy, .int .i64 r0_Probe_Cell, .int .i64 r0_Probe_Phase, .int .i64 r0_Probe_Ver, .int .i64 r0_Probe_Val])) := by kernel_rfl

theorem laws_toKidRun_fn : PM.FnIs Try.prog 216 Try.f216 := .of Try.func216 (by kernel_rfl) (by kernel_rfl)
theorem laws_toKidRun_g : PM.GOk Try.prog cx 216 ⟨[], laws_toKidRun_w (laws_toKidRun PM.std), none⟩ := by
  refine ⟨laws_toKidRun_fn.enter, fun _ ds k r h => ?_, fun hm => absurd rfl hm, fun _ e => (by cases e)⟩
  change laws_toKidRun_w (laws_toKidRun PM.std) ds k = some r at h
  unfold laws_toKidRun_w at h
  split at h
  · exact PM.pfun_ok (E := laws_toKidRun_E PM.std (laws_toIntS PM.std) (laws_toRowS PM.std) (laws_toProbe PM.std) (laws_toEntryS PM.std) (laws_toKidMarkS PM.std)) (L := fun n => laws_toKidRun_L PM.std (laws_toIntS PM.std) (laws_toRowS PM.std) (laws_toProbe PM.std) (laws_toEntryS PM.std) (laws_toKidMarkS PM.std) n) (N := PM.std.fuel) cx_ok (.cons laws_toIntS_g (.cons laws_toRowS_g (.cons laws_toProbe_g (.cons laws_toEntryS_g (.cons laws_toKidMarkS_g .nil))))) mixed .nil laws_toKidRun_fn (by kernel_rfl) ⟨rfl, fun _ _ _ => rfl, fun n cur σ K r h => by cases h⟩
      ((laws_toKidRun_ok PM.std (laws_toIntS PM.std) (laws_toRowS PM.std) (laws_toProbe PM.std) (laws_toEntryS PM.std) (laws_toKidMarkS PM.std) _ _ _ _ _ _ _ _ _ _ _ _ _ _ _ k).trans h)
  · cases h

abbrev laws_toKidRunS_T := (List (List PM.C)) → ((List (List PM.C)) → PM.R) → PM.R
noncomputable def laws_toKidRunS_w (c : laws_toKidRunS_T) (ds : List PM.V) (k : PM.V → PM.R) : PM.R :=
  match ds with
  | [.arr (.rows 295 a)] => c a (fun r0 => k (.arr (.rows 214 r0)))
  | _ => none
noncomputable def laws_toKidRunS_l0 (A : PM.Prims) (c_216 : laws_toKidRun_T) : Nat → (List (List C)) → (Int) → (List (List C)) → ((List (List C)) → PM.R) → PM.R
  | 0, _, _, _, _ => none
  | n + 1, a1, i2, o03, kx0_0 =>
    bif (A.lt i2 (A.rlen a1)) then
      bif (A.inb i2 (A.rlen a1)) then
        c_216 (A.rint a1 i2 0) (A.rint a1 i2 1) (A.rint a1 i2 2) (A.rint a1 i2 3) (A.rint a1 i2 4) (A.rint a1 i2 5) (A.rsi a1 i2 6) (A.rsv 3 a1 i2 7) (A.rsv 2 a1 i2 8) (A.rsr a1 i2 9) (A.rbool a1 i2 10) (A.rint a1 i2 11) (A.rint a1 i2 12) (A.rint a1 i2 13) (A.rint a1 i2 14) (fun r4 r5 r6 r7 r8 r9 r10 r11 r12 r13 r14 r15 r16 r17 r18 =>
          bif (A.inb i2 (A.rlen o03)) then
            laws_toKidRunS_l0 A c_216 n a1 (A.add .i64 i2 1) (A.rput o03 i2 [(.i r4), (.i r5), (.i r6), (.i r7), (.i r8), (.i r9), (.s (A.ofi r10)), (.s (A.ofv r11)), (.s (A.ofv r12)), (.s r13), (.b r14), (.i r15), (.i r16), (.i r17), (.i r18)]) kx0_0
          else
            none)
      else
        none
    else
      kx0_0 o03
noncomputable def laws_toKidRunS_f (A : PM.Prims) (c_216 : laws_toKidRun_T) (a : List (List PM.C)) (k : (List (List PM.C)) → PM.R) : PM.R :=
  bif (A.mkOk (A.rlen a)) then
    bif (A.le (A.rlen a) (A.rlen a)) then
      bif (A.mkOk (A.rlen a)) then
        laws_toKidRunS_l0 A c_216 A.fuel a 0 (A.rzero [(.i 0), (.i 0), (.i 0), (.i 0), (.i 0), (.i 0), (.s (A.ofi [])), (.s (A.ofv [])), (.s (A.ofv [])), (.s []), (.b false), (.i 0), (.i 0), (.i 0), (.i 0)] (A.rlen a)) (fun o01920 =>
          k o01920)
      else
        none
    else
      none
  else
    none
noncomputable def laws_toKidRunS (A : PM.Prims) : laws_toKidRunS_T := laws_toKidRunS_f A (laws_toKidRun A)
noncomputable def laws_toKidRunS_L (A : PM.Prims) (c_216 : laws_toKidRun_T) (n : Nat) : PM.Lam := fun cur σ K =>
  match cur, σ, K with
  | 0, ⟨[(0, .arr (.rows 295 a1)), (3, .sref 0), (4, .int .i64 i2)], [(0, .arr true (.rows 214 o03))]⟩, K => laws_toKidRunS_l0 A c_216 n a1 i2 o03 (fun o019 => K (.exit 0) ⟨[(3, .sref 0)], [(0, .arr true (.rows 214 o019))]⟩)
  | _, _, _ => none
noncomputable def laws_toKidRunS_E (A : PM.Prims) (c_216 : laws_toKidRun_T) : PM.Env := ⟨[(216, ⟨[], laws_toKidRun_w c_216, none⟩)], [], [(0, [0, 3, 4], [2, 3])], [(0, [0]), (1, [0, 3]), (2, [0, 3, 4]), (3, [0, 3, 4, 11]), (4, [0, 3, 4]), (5, [0, 3, 4]), (6, [2])], laws_toKidRunS_L A c_216 A.fuel⟩
theorem laws_toKidRunS_l0_ok (A : PM.Prims) (c_216 : laws_toKidRun_T) (n : Nat) (a1 : List (List C)) (i2 : Int) (o03 : List (List C)) (K : Go.Exit → PM.S → PM.R) : laws_toKidRunS_L A c_216 (n + 1) 0 ⟨[(0, .arr (.rows 295 a1)), (3, .sref 0), (4, .int .i64 i2)], [(0, .arr true (.rows 214 o03))]⟩ K = PM.roundF A cx (PM.runD A cx (laws_toKidRunS_E A c_216).inl (laws_toKidRunS_E A c_216).Γ 3) (laws_toKidRunS_E A c_216) (laws_toKidRunS_L A c_216 n) 0 Go.Proofs.Try.f152 ⟨[(0, .arr (.rows 295 a1)), (3, .sref 0), (4, .int .i64 i2)], [(0, .arr true (.rows 214 o03))]⟩ K := by kernel_rfl
theorem laws_toKidRunS_ok (A : PM.Prims) (c_216 : laws_toKidRun_T) (a : List (List PM.C)) (k : PM.V → PM.R) : PM.pfun A cx [] (laws_toKidRunS_E A c_216) Go.Proofs.Try.f152 [.arr (.rows 295 a)] k = laws_toKidRunS_f A c_216 a (fun r0 => k (.arr (.rows 214 r0))) := by kernel_rfl

theorem laws_toKidRunS_fn : PM.FnIs Try.prog 152 Try.f152 := .of Try.func152 (by kernel_rfl) (by kernel_rfl)
theorem laws_toKidRunS_g : PM.GOk Try.prog cx 152 ⟨[], laws_toKidRunS_w (laws_toKidRunS PM.std), none⟩ := by
  refine ⟨laws_toKidRunS_fn.enter, fun _ ds k r h => ?_, fun hm => absurd rfl hm, fun _ e => (by cases e)⟩
  change laws_toKidRunS_w (laws_toKidRunS PM.std) ds k = some r at h
  unfold laws_toKidRunS_w at h
  split at h
  · exact PM.pfun_ok (E := laws_toKidRunS_E PM.std (laws_toKidRun PM.std)) (L := fun n => laws_toKidRunS_L PM.std (laws_toKidRun PM.std) n) (N := PM.std.fuel) cx_ok (.cons laws_toKidRun_g .nil) mixed .nil laws_toKidRunS_fn (by kernel_rfl) ⟨rfl, fun cur σ K => by
      dsimp only [laws_toKidRunS_L]
      split <;> rfl, fun n cur σ K r h => by
      dsimp only [laws_toKidRunS_L] at h
      split at h
      · exact (laws_toKidRunS_l0_ok PM.std (laws_toKidRun PM.std) n _ _ _ K).symm.trans h
      · cases h⟩
      ((laws_toKidRunS_ok PM.std (laws_toKidRun PM.std) _ k).trans h)
  · cases h

abbrev laws_toFamily_T := (Int) → (Int) → (Int) → (Bool) → (List Int) → (List (List Int)) → (List (List Int)) → (List Int) → (List (List Int)) → (List (List PM.C)) → ((Int) → (Int) → (Int) → (Bool) → (List Int) → (List (List Int)) → (List (List Int)) → (List Int) → (List (List Int)) → (List (List PM.C)) → PM.R) → PM.R
noncomputable def laws_toFamily_w (c : laws_toFamily_T) (ds : List PM.V) (k : PM.V → PM.R) : PM.R :=
  match ds with
  | [.agg [.int .i64 a_Rv, .int .i64 a_Clock, .int .i64 a_Owner, .bool a_Lost, .arr (.ints 3 .i64 a_Regs), .arr (.vecs 297 2 a_Start), .arr (.vecs 299 3 a_Buf), .arr (.ints 3 .i64 a_Order), .arr (.vecs 297 2 a_Reads), .arr (.rows 295 a_Kids)]] => c a_Rv a_Clock a_Owner a_Lost a_Regs a_Start a_Buf a_Order a_Reads a_Kids (fun r0_Rv r0_Clock r0_Owner r0_Lost r0_Regs r0_Start r0_Buf r0_Order r0_Reads r0_Kids => k (.agg [.int .i64 r0_Rv, .int .i64 r0_Clock, .int .i64 r0_Owner, .bool r0_Lost, .arr (.ints 3 .i64 r0_Regs), .arr (.vecs 161 2 r0_Start), .arr (.vecs 225 3 r0_Buf), .arr (.ints 3 .i64 r0_Order), .arr (.vecs 161 2 r0_Reads), .arr (.rows 214 r0_Kids)]))
  | _ => none
noncomputable def laws_toFamily_f (A : PM.Prims) (c_37 : laws_toIntS_T) (c_150 : laws_toRowS_T) (c_151 : laws_toEntryS_T) (c_152 : laws_toKidRunS_T) (a_Rv : Int) (a_Clock : Int) (a_Owner : Int) (a_Lost : Bool) (a_Regs : List Int) (a_Start : List (List Int)) (a_Buf : List (List Int)) (a_Order : List Int) (a_Reads : List (List Int)) (a_Kids : List (List PM.C)) (k : (Int) → (Int) → (Int) → (Bool) → (List Int) → (List (List Int)) → (List (List Int)) → (List Int) → (List (List Int)) → (List (List PM.C)) → PM.R) : PM.R :=
  c_37 a_Regs (fun r1 =>
    c_150 a_Start (fun r2 =>
      c_151 a_Buf (fun r3 =>
        c_37 a_Order (fun r4 =>
          c_150 a_Reads (fun r5 =>
            c_152 a_Kids (fun r6 =>
              k a_Rv a_Clock a_Owner a_Lost r1 r2 r3 r4 r5 r6))))))
noncomputable def laws_toFamily (A : PM.Prims) : laws_toFamily_T := laws_toFamily_f A (laws_toIntS A) (laws_toRowS A) (laws_toEntryS A) (laws_toKidRunS A)
noncomputable def laws_toFamily_L (A : PM.Prims) (c_37 : laws_toIntS_T) (c_150 : laws_toRowS_T) (c_151 : laws_toEntryS_T) (c_152 : laws_toKidRunS_T) (n : Nat) : PM.Lam := fun cur σ K =>
  match cur, σ, K with
  | _, _, _ => none
noncomputable def laws_toFamily_E (A : PM.Prims) (c_37 : laws_toIntS_T) (c_150 : laws_toRowS_T) (c_151 : laws_toEntryS_T) (c_152 : laws_toKidRunS_T) : PM.Env := ⟨[(37, ⟨[], laws_toIntS_w c_37, none⟩), (150, ⟨[], laws_toRowS_w c_150, none⟩), (151, ⟨[], laws_toEntryS_w c_151, none⟩), (152, ⟨[], laws_toKidRunS_w c_152, none⟩)], [], [], [(0, [1, 2]), (1, [1, 2, 3]), (2, [1, 2, 3]), (3, [1, 2, 3]), (4, [1, 2, 3]), (5, [1, 2, 3]), (6, [1, 2, 3]), (7, [1, 2, 3]), (8, [1, 2, 3]), (9, [1, 2, 3]), (10, [1, 2, 3]), (11, [2, 3]), (12, [2])], laws_toFamily_L A c_37 c_150 c_151 c_152 A.fuel⟩
theorem laws_toFamily_ok (A : PM.Prims) (c_37 : laws_toIntS_T) (c_150 : laws_toRowS_T) (c_151 : laws_toEntryS_T) (c_152 : laws_toKidRunS_T) (a_Rv : Int) (a_Clock : Int) (a_Owner : Int) (a_Lost : Bool) (a_Regs : List Int) (a_Start : List (List Int)) (a_Buf : List (List Int)) (a_Order : List Int) (a_Reads : List (List Int)) (a_Kids : List (List PM.C)) (k : PM.V → PM.R) : PM.pfun A cx [] (laws_toFamily_E A c_37 c_150 c_151 c_152) Go.Proofs.Try.f59 [.agg [.int .i64 a_Rv, .int .i64 a_Clock, .int .i64 a_Owner, .bool a_Lost, .arr (.ints 3 .i64 a_Regs), .arr (.vecs 297 2 a_Start), .arr (.vecs 299 3 a_Buf), .arr (.ints 3 .i64 a_Order), .arr (.vecs 297 2 a_Reads), .arr (.rows 295 a_Kids)]] k = laws_toFamily_f A c_37 c_150 c_151 c_152 a_Rv a_Clock a_Owner a_Lost a_Regs a_Start a_Buf a_Order a_Reads a_Kids (fun r0_Rv r0_Clock r0_Owner r0_Lost r0_Regs r0_Start r0_Buf r0_Order r0_Reads r0_Kids => k (.agg [.int .i64 r0_Rv, .int .i64 r0_Clock, .int .i64 r0_Owner, .bool r0_Lost, .arr (.ints 3 .i64 r0_Regs), .arr (.vecs 161 2 r0_Start), .arr (.vecs 225 3 r0_Buf), .arr (.ints 3 .i64 r0_Order), .arr (.vecs 161 2 r0_Reads), .arr (.rows 214 r0_Kids)])) := by kernel_rfl

theorem laws_toFamily_fn : PM.FnIs Try.prog 59 Try.f59 := .of Try.func59 (by kernel_rfl) (by kernel_rfl)
theorem laws_toFamily_g : PM.GOk Try.prog cx 59 ⟨[], laws_toFamily_w (laws_toFamily PM.std), none⟩ := by
  refine ⟨laws_toFamily_fn.enter, fun _ ds k r h => ?_, fun hm => absurd rfl hm, fun _ e => (by cases e)⟩
  change laws_toFamily_w (laws_toFamily PM.std) ds k = some r at h
  unfold laws_toFamily_w at h
  split at h
  · exact PM.pfun_ok (E := laws_toFamily_E PM.std (laws_toIntS PM.std) (laws_toRowS PM.std) (laws_toEntryS PM.std) (laws_toKidRunS PM.std)) (L := fun n => laws_toFamily_L PM.std (laws_toIntS PM.std) (laws_toRowS PM.std) (laws_toEntryS PM.std) (laws_toKidRunS PM.std) n) (N := PM.std.fuel) cx_ok (.cons laws_toIntS_g (.cons laws_toRowS_g (.cons laws_toEntryS_g (.cons laws_toKidRunS_g .nil)))) mixed .nil laws_toFamily_fn (by kernel_rfl) ⟨rfl, fun _ _ _ => rfl, fun n cur σ K r h => by cases h⟩
      ((laws_toFamily_ok PM.std (laws_toIntS PM.std) (laws_toRowS PM.std) (laws_toEntryS PM.std) (laws_toKidRunS PM.std) _ _ _ _ _ _ _ _ _ _ k).trans h)
  · cases h

abbrev spec_l1In_T := (Int) → (Int) → (Int) → ((Bool) → PM.R) → PM.R
noncomputable def spec_l1In_w (c : spec_l1In_T) (ds : List PM.V) (k : PM.V → PM.R) : PM.R :=
  match ds with
  | [.int .i64 x, .int .i64 low, .int .i64 high] => c x low high (fun r0 => k (.bool r0))
  | _ => none
noncomputable def spec_l1In_f (A : PM.Prims) (x : Int) (low : Int) (high : Int) (k : (Bool) → PM.R) : PM.R :=
  bif (A.le low x) then
    k (A.le x high)
  else
    k false
noncomputable def spec_l1In (A : PM.Prims) : spec_l1In_T := spec_l1In_f A
noncomputable def spec_l1In_L (A : PM.Prims) (n : Nat) : PM.Lam := fun cur σ K =>
  match cur, σ, K with
  | _, _, _ => none
noncomputable def spec_l1In_E (A : PM.Prims) : PM.Env := ⟨[], [], [], [(0, [0, 1, 2]), (1, [6])], spec_l1In_L A A.fuel⟩
theorem spec_l1In_ok (A : PM.Prims) (x : Int) (low : Int) (high : Int) (k : PM.V → PM.R) : PM.pfun A cx [] (spec_l1In_E A) Go.Proofs.Try.f103 [.int .i64 x, .int .i64 low, .int .i64 high] k = spec_l1In_f A x low high (fun r0 => k (.bool r0)) := by kernel_rfl

theorem spec_l1In_fn : PM.FnIs Try.prog 103 Try.f103 := .of Try.func103 (by kernel_rfl) (by kernel_rfl)
theorem spec_l1In_g : PM.GOk Try.prog cx 103 ⟨[], spec_l1In_w (spec_l1In PM.std), none⟩ := by
  refine ⟨spec_l1In_fn.enter, fun _ ds k r h => ?_, fun hm => absurd rfl hm, fun _ e => (by cases e)⟩
  change spec_l1In_w (spec_l1In PM.std) ds k = some r at h
  unfold spec_l1In_w at h
  split at h
  · exact PM.pfun_ok (E := spec_l1In_E PM.std) (L := fun n => spec_l1In_L PM.std n) (N := PM.std.fuel) cx_ok .nil mixed .nil spec_l1In_fn (by kernel_rfl) ⟨rfl, fun _ _ _ => rfl, fun n cur σ K r h => by cases h⟩
      ((spec_l1In_ok PM.std _ _ _ k).trans h)
  · cases h

abbrev spec_l3Val_T := (Int) → ((Bool) → PM.R) → PM.R
noncomputable def spec_l3Val_w (c : spec_l3Val_T) (ds : List PM.V) (k : PM.V → PM.R) : PM.R :=
  match ds with
  | [.int .i64 v] => c v (fun r0 => k (.bool r0))
  | _ => none
noncomputable def spec_l3Val_f (A : PM.Prims) (c_103 : spec_l1In_T) (v : Int) (k : (Bool) → PM.R) : PM.R :=
  c_103 v 0 65535 (fun r1 =>
    k r1)
noncomputable def spec_l3Val (A : PM.Prims) : spec_l3Val_T := spec_l3Val_f A (spec_l1In A)
noncomputable def spec_l3Val_L (A : PM.Prims) (c_103 : spec_l1In_T) (n : Nat) : PM.Lam := fun cur σ K =>
  match cur, σ, K with
  | _, _, _ => none
noncomputable def spec_l3Val_E (A : PM.Prims) (c_103 : spec_l1In_T) : PM.Env := ⟨[(103, ⟨[], spec_l1In_w c_103, none⟩)], [], [], [(0, [0]), (1, [2])], spec_l3Val_L A c_103 A.fuel⟩
theorem spec_l3Val_ok (A : PM.Prims) (c_103 : spec_l1In_T) (v : Int) (k : PM.V → PM.R) : PM.pfun A cx [] (spec_l3Val_E A c_103) Go.Proofs.Try.f197 [.int .i64 v] k = spec_l3Val_f A c_103 v (fun r0 => k (.bool r0)) := by kernel_rfl

theorem spec_l3Val_fn : PM.FnIs Try.prog 197 Try.f197 := .of Try.func197 (by kernel_rfl) (by kernel_rfl)
theorem spec_l3Val_g : PM.GOk Try.prog cx 197 ⟨[], spec_l3Val_w (spec_l3Val PM.std), none⟩ := by
  refine ⟨spec_l3Val_fn.enter, fun _ ds k r h => ?_, fun hm => absurd rfl hm, fun _ e => (by cases e)⟩
  change spec_l3Val_w (spec_l3Val PM.std) ds k = some r at h
  unfold spec_l3Val_w at h
  split at h
  · exact PM.pfun_ok (E := spec_l3Val_E PM.std (spec_l1In PM.std)) (L := fun n => spec_l3Val_L PM.std (spec_l1In PM.std) n) (N := PM.std.fuel) cx_ok (.cons spec_l1In_g .nil) mixed .nil spec_l3Val_fn (by kernel_rfl) ⟨rfl, fun _ _ _ => rfl, fun n cur σ K r h => by cases h⟩
      ((spec_l3Val_ok PM.std (spec_l1In PM.std) _ k).trans h)
  · cases h

abbrev spec_l3Vals_T := (List Int) → ((Bool) → PM.R) → PM.R
noncomputable def spec_l3Vals_w (c : spec_l3Vals_T) (ds : List PM.V) (k : PM.V → PM.R) : PM.R :=
  match ds with
  | [.arr (.ints 3 .i64 l)] => c l (fun r0 => k (.bool r0))
  | _ => none
noncomputable def spec_l3Vals_l0 (A : PM.Prims) (c_197 : spec_l3Val_T) : Nat → (List Int) → (Int) → ((Bool) → PM.R) → (Unit → PM.R) → PM.R
  | 0, _, _, _, _ => none
  | n + 1, l1, i2, kret_0, kx0_0 =>
    bif (A.lt i2 (A.ilen l1)) then
      bif (A.inb i2 (A.ilen l1)) then
        c_197 (A.iget l1 i2) (fun r3 =>
          bif (A.not r3) then
            kret_0 false
          else
            spec_l3Vals_l0 A c_197 n l1 (A.add .i64 i2 1) kret_0 kx0_0)
      else
        none
    else
      kx0_0 ()
noncomputable def spec_l3Vals_f (A : PM.Prims) (c_197 : spec_l3Val_T) (l : List Int) (k : (Bool) → PM.R) : PM.R :=
  bif (A.not (A.eq (A.ilen l) 8)) then
    k false
  else
    spec_l3Vals_l0 A c_197 A.fuel l 0 (fun t245 =>
      k t245) (fun _ =>
      k true)
noncomputable def spec_l3Vals (A : PM.Prims) : spec_l3Vals_T := spec_l3Vals_f A (spec_l3Val A)
noncomputable def spec_l3Vals_L (A : PM.Prims) (c_197 : spec_l3Val_T) (n : Nat) : PM.Lam := fun cur σ K =>
  match cur, σ, K with
  | 0, ⟨[(0, .arr (.ints 3 .i64 l1)), (3, .int .i64 i2)], []⟩, K => spec_l3Vals_l0 A c_197 n l1 i2 (fun t24 => K .ret ⟨[(2, .bool t24)], []⟩) (fun _ => K (.exit 0) ⟨[], []⟩)
  | _, _, _ => none
noncomputable def spec_l3Vals_E (A : PM.Prims) (c_197 : spec_l3Val_T) : PM.Env := ⟨[(197, ⟨[], spec_l3Val_w c_197, none⟩)], [], [(0, [0, 3], [2])], [(0, [0]), (1, [0, 6]), (2, [2]), (3, [0, 3]), (4, [0, 3, 10]), (5, [0, 3]), (6, [0, 3, 18]), (7, [2]), (8, [2])], spec_l3Vals_L A c_197 A.fuel⟩
theorem spec_l3Vals_l0_ok (A : PM.Prims) (c_197 : spec_l3Val_T) (n : Nat) (l1 : List Int) (i2 : Int) (K : Go.Exit → PM.S → PM.R) : spec_l3Vals_L A c_197 (n + 1) 0 ⟨[(0, .arr (.ints 3 .i64 l1)), (3, .int .i64 i2)], []⟩ K = PM.roundF A cx (PM.runD A cx (spec_l3Vals_E A c_197).inl (spec_l3Vals_E A c_197).Γ 3) (spec_l3Vals_E A c_197) (spec_l3Vals_L A c_197 n) 0 Go.Proofs.Try.f107 ⟨[(0, .arr (.ints 3 .i64 l1)), (3, .int .i64 i2)], []⟩ K := by kernel_rfl
theorem spec_l3Vals_ok (A : PM.Prims) (c_197 : spec_l3Val_T) (l : List Int) (k : PM.V → PM.R) : PM.pfun A cx [] (spec_l3Vals_E A c_197) Go.Proofs.Try.f107 [.arr (.ints 3 .i64 l)] k = spec_l3Vals_f A c_197 l (fun r0 => k (.bool r0)) := by kernel_rfl

theorem spec_l3Vals_fn : PM.FnIs Try.prog 107 Try.f107 := .of Try.func107 (by kernel_rfl) (by kernel_rfl)
theorem spec_l3Vals_g : PM.GOk Try.prog cx 107 ⟨[], spec_l3Vals_w (spec_l3Vals PM.std), none⟩ := by
  refine ⟨spec_l3Vals_fn.enter, fun _ ds k r h => ?_, fun hm => absurd rfl hm, fun _ e => (by cases e)⟩
  change spec_l3Vals_w (spec_l3Vals PM.std) ds k = some r at h
  unfold spec_l3Vals_w at h
  split at h
  · exact PM.pfun_ok (E := spec_l3Vals_E PM.std (spec_l3Val PM.std)) (L := fun n => spec_l3Vals_L PM.std (spec_l3Val PM.std) n) (N := PM.std.fuel) cx_ok (.cons spec_l3Val_g .nil) mixed .nil spec_l3Vals_fn (by kernel_rfl) ⟨rfl, fun cur σ K => by
      dsimp only [spec_l3Vals_L]
      split <;> rfl, fun n cur σ K r h => by
      dsimp only [spec_l3Vals_L] at h
      split at h
      · exact (spec_l3Vals_l0_ok PM.std (spec_l3Val PM.std) n _ _ K).symm.trans h
      · cases h⟩
      ((spec_l3Vals_ok PM.std (spec_l3Val PM.std) _ k).trans h)
  · cases h

abbrev spec_l3Cell_T := (Int) → ((Bool) → PM.R) → PM.R
noncomputable def spec_l3Cell_w (c : spec_l3Cell_T) (ds : List PM.V) (k : PM.V → PM.R) : PM.R :=
  match ds with
  | [.int .i64 i] => c i (fun r0 => k (.bool r0))
  | _ => none
noncomputable def spec_l3Cell_f (A : PM.Prims) (c_103 : spec_l1In_T) (i : Int) (k : (Bool) → PM.R) : PM.R :=
  c_103 i 0 7 (fun r1 =>
    k r1)
noncomputable def spec_l3Cell (A : PM.Prims) : spec_l3Cell_T := spec_l3Cell_f A (spec_l1In A)
noncomputable def spec_l3Cell_L (A : PM.Prims) (c_103 : spec_l1In_T) (n : Nat) : PM.Lam := fun cur σ K =>
  match cur, σ, K with
  | _, _, _ => none
noncomputable def spec_l3Cell_E (A : PM.Prims) (c_103 : spec_l1In_T) : PM.Env := ⟨[(103, ⟨[], spec_l1In_w c_103, none⟩)], [], [], [(0, [0]), (1, [2])], spec_l3Cell_L A c_103 A.fuel⟩
theorem spec_l3Cell_ok (A : PM.Prims) (c_103 : spec_l1In_T) (i : Int) (k : PM.V → PM.R) : PM.pfun A cx [] (spec_l3Cell_E A c_103) Go.Proofs.Try.f140 [.int .i64 i] k = spec_l3Cell_f A c_103 i (fun r0 => k (.bool r0)) := by kernel_rfl

theorem spec_l3Cell_fn : PM.FnIs Try.prog 140 Try.f140 := .of Try.func140 (by kernel_rfl) (by kernel_rfl)
theorem spec_l3Cell_g : PM.GOk Try.prog cx 140 ⟨[], spec_l3Cell_w (spec_l3Cell PM.std), none⟩ := by
  refine ⟨spec_l3Cell_fn.enter, fun _ ds k r h => ?_, fun hm => absurd rfl hm, fun _ e => (by cases e)⟩
  change spec_l3Cell_w (spec_l3Cell PM.std) ds k = some r at h
  unfold spec_l3Cell_w at h
  split at h
  · exact PM.pfun_ok (E := spec_l3Cell_E PM.std (spec_l1In PM.std)) (L := fun n => spec_l3Cell_L PM.std (spec_l1In PM.std) n) (N := PM.std.fuel) cx_ok (.cons spec_l1In_g .nil) mixed .nil spec_l3Cell_fn (by kernel_rfl) ⟨rfl, fun _ _ _ => rfl, fun n cur σ K r h => by cases h⟩
      ((spec_l3Cell_ok PM.std (spec_l1In PM.std) _ k).trans h)
  · cases h

end X
