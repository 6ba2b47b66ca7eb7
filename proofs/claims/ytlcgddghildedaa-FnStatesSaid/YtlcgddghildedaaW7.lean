/- Models of the functions, or plain laws about them; each theorem states its own conditions. -/
import Derived.Test.YtlcgddghildedaaSrtI
import Derived.Test.YtlcgddghildedaaProg
import Derived.ProofKit
import Derived.KernelRfl
set_option linter.unusedVariables false
set_option linter.unusedSimpArgs false
open Go Go.Proofs Go.Sort Go.RowKit
namespace X
/-! The library's sort at numbers. -/
abbrev slices_Sort___int_int__T := (List Int) → ((List Int) → PM.R) → PM.R
def slices_Sort___int_int__w (c : slices_Sort___int_int__T) (ds : List PM.V) (k : PM.V → PM.R) : PM.R :=
  match ds with
  | [.arr (.ints 3 .i64 x)] => c x (fun o0 => k (.tup [.arr (.ints 3 .i64 o0)]))
  | _ => none
def slices_Sort___int_int_ (A : PM.Prims) : slices_Sort___int_int__T := fun l k => if l.length ≤ 2147483648 then k (PM.srtI l) else none
def sortInt_ren : Go.Shelf.Ren := ⟨fun | 5 => 106 | 8 => 196 | 7 => 198 | 19 => 252 | 20 => 253 | 10 => 254 | 11 => 255 | 12 => 256 | 13 => 257 | 14 => 258 | 15 => 259 | 16 => 260 | 17 => 261 | 18 => 262 | 30 => 303 | 31 => 299 | 32 => 300 | 33 => 304 | 34 => 305 | 35 => 306 | 40 => 323 | n => n, fun | 23 => 24 | 25 => 3 | 3 => 3 | 32 => 262 | 22 => 24 | 0 => 0 | 44 => 341 | 46 => 343 | 4 => 4 | 36 => 335 | 35 => 334 | 41 => 34 | 5 => 5 | 9 => 9 | 53 => 385 | 57 => 389 | 63 => 412 | 64 => 413 | n => n, fun | n => n⟩
theorem sortInt : Go.Proofs.SlLaysM.n5 Try.prog sortInt_ren where
  mixed := by kernel_rfl
  f5 := ⟨Try.f106.name, by decide, Try.func106.trans (congrArg some (by kernel_rfl))⟩
  f7 := ⟨Try.f198.name, by decide, Try.func198.trans (congrArg some (by kernel_rfl))⟩
  f8 := Try.func196.trans (congrArg some (by kernel_rfl))
  f10 := ⟨Try.f254.name, by decide, Try.func254.trans (congrArg some (by kernel_rfl))⟩
  f11 := ⟨Try.f255.name, by decide, Try.func255.trans (congrArg some (by kernel_rfl))⟩
  f12 := ⟨Try.f256.name, by decide, Try.func256.trans (congrArg some (by kernel_rfl))⟩
  f13 := ⟨Try.f257.name, by decide, Try.func257.trans (congrArg some (by kernel_rfl))⟩
  f14 := ⟨Try.f258.name, by decide, Try.func258.trans (congrArg some (by kernel_rfl))⟩
  f15 := ⟨Try.f259.name, by decide, Try.func259.trans (congrArg some (by kernel_rfl))⟩
  f16 := ⟨Try.f260.name, by decide, Try.func260.trans (congrArg some (by kernel_rfl))⟩
  f17 := ⟨Try.f261.name, by decide, Try.func261.trans (congrArg some (by kernel_rfl))⟩
  f18 := ⟨Try.f262.name, by decide, Try.func262.trans (congrArg some (by kernel_rfl))⟩
  f19 := Try.func252.trans (congrArg some (by kernel_rfl))
  f20 := Try.func253.trans (congrArg some (by kernel_rfl))
  f30 := ⟨Try.f303.name, by decide, Try.func303.trans (congrArg some (by kernel_rfl))⟩
  f31 := Try.func299.trans (congrArg some (by kernel_rfl))
  f32 := Try.func300.trans (congrArg some (by kernel_rfl))
  f33 := ⟨Try.f304.name, by decide, Try.func304.trans (congrArg some (by kernel_rfl))⟩
  f34 := ⟨Try.f305.name, by decide, Try.func305.trans (congrArg some (by kernel_rfl))⟩
  f35 := ⟨Try.f306.name, by decide, Try.func306.trans (congrArg some (by kernel_rfl))⟩
  f40 := ⟨Try.f323.name, by decide, Try.func323.trans (congrArg some (by kernel_rfl))⟩
  t0 := Try.underlying0
  a0 := Try.isAgg0
  z0 := Try.sizeOf0
  v0 := Try.zeroValue0
  t3 := Try.underlying3
  a3 := Try.isAgg3
  z3 := Try.sizeOf3
  v3 := Try.zeroValue3
  t4 := Try.underlying4
  a4 := Try.isAgg4
  z4 := Try.sizeOf4
  v4 := Try.zeroValue4
  t5 := Try.underlying5
  a5 := Try.isAgg5
  z5 := Try.sizeOf5
  v5 := Try.zeroValue5
  t9 := Try.underlying9
  a9 := Try.isAgg9
  z9 := Try.sizeOf9
  v9 := Try.zeroValue9
  t22 := Try.underlying24
  a22 := Try.isAgg24
  z22 := Try.sizeOf24
  v22 := Try.zeroValue24
  t23 := Try.underlying24
  a23 := Try.isAgg24
  z23 := Try.sizeOf24
  v23 := Try.zeroValue24
  t25 := Try.underlying3
  a25 := Try.isAgg3
  z25 := Try.sizeOf3
  v25 := Try.zeroValue3
  t32 := Try.underlying262
  a32 := Try.isAgg262
  z32 := Try.sizeOf262
  v32 := Try.zeroValue262
  t35 := Try.underlying334
  a35 := Try.isAgg334
  z35 := Try.sizeOf334
  v35 := Try.zeroValue334
  t36 := Try.underlying335
  a36 := Try.isAgg335
  z36 := Try.sizeOf335
  v36 := Try.zeroValue335
  t41 := Try.underlying34
  a41 := Try.isAgg34
  z41 := Try.sizeOf34
  v41 := Try.zeroValue34
  t44 := Try.underlying341
  a44 := Try.isAgg341
  z44 := Try.sizeOf341
  v44 := Try.zeroValue341
  t46 := Try.underlying343
  a46 := Try.isAgg343
  z46 := Try.sizeOf343
  v46 := Try.zeroValue343
  t53 := Try.underlying385
  a53 := Try.isAgg385
  z53 := Try.sizeOf385
  v53 := Try.zeroValue385
  t57 := Try.underlying389
  a57 := Try.isAgg389
  z57 := Try.sizeOf389
  v57 := Try.zeroValue389
  t63 := Try.underlying412
  a63 := Try.isAgg412
  z63 := Try.sizeOf412
  v63 := Try.zeroValue412
  t64 := Try.underlying413
  a64 := Try.isAgg413
  z64 := Try.sizeOf413
  v64 := Try.zeroValue413
theorem slices_Sort___int_int__g {cx : PM.Cx} : PM.GOk Try.prog cx 106 ⟨[true], slices_Sort___int_int__w (slices_Sort___int_int_ PM.std), none⟩ := by
  refine PM.sortI_gok (ρ := sortInt_ren) sortInt (PM.FnIs.of Try.func106 (by kernel_rfl) (by kernel_rfl)).enter (t := 3) fun ds k r h => ?_
  unfold slices_Sort___int_int__w at h
  split at h
  · rename_i s
    unfold slices_Sort___int_int_ at h
    split at h
    · rename_i hl
      exact ⟨s, rfl, hl, h⟩
    · cases h
  · cases h
end X
