/- Models of the functions, or plain laws about them; each theorem states its own conditions. -/
import Derived.Test.YtlcgddghildedaaSrtW
import Derived.Test.YtlcgddghildedaaProg
import Derived.Shelf.SlSortCmp.NoneTotal
import Derived.ProofKit
import Derived.WalkKit
import Derived.Below
import Derived.KernelRfl
set_option linter.unusedVariables false
set_option linter.unusedSimpArgs false
open Go Go.Proofs Go.Sort Go.RowKit
namespace X
/-! The library's sort at rows by their stamps. -/
abbrev slices_SortFunc___impl_Wrote_impl_Wrote__T := (List (List PM.C)) → ((List (List PM.C)) → PM.R) → PM.R
def slices_SortFunc___impl_Wrote_impl_Wrote__w (c : slices_SortFunc___impl_Wrote_impl_Wrote__T) (ds : List PM.V) (k : PM.V → PM.R) : PM.R :=
  match ds with
  | [.arr (.rows 33 s)] => c s (fun r0 => k (.arr (.rows 33 r0)))
  | _ => none
noncomputable def slices_SortFunc___impl_Wrote_impl_Wrote_ (A : PM.Prims) : slices_SortFunc___impl_Wrote_impl_Wrote__T := PM.srtW
def sortWrote_ren : Go.Shelf.Ren := ⟨fun | 6 => 99 | 15 => 196 | 14 => 195 | 28 => 252 | 29 => 253 | 20 => 244 | 21 => 245 | 22 => 246 | 23 => 247 | 24 => 248 | 25 => 249 | 26 => 250 | 27 => 251 | 46 => 298 | 47 => 299 | 48 => 300 | 49 => 301 | 50 => 302 | 57 => 322 | n => n, fun | 22 => 25 | 24 => 33 | 25 => 157 | 3 => 3 | 39 => 262 | 0 => 0 | 53 => 341 | 55 => 343 | 4 => 4 | 46 => 335 | 45 => 334 | 50 => 34 | 5 => 5 | 9 => 9 | 66 => 385 | 70 => 389 | 76 => 412 | 77 => 413 | n => n, fun | n => n⟩
theorem sortWrote : Go.Proofs.SlLaysF0.n6 Try.prog sortWrote_ren where
  mixed := by kernel_rfl
  f6 := ⟨Try.f99.name, by decide, Try.func99.trans (congrArg some (by kernel_rfl))⟩
  f14 := ⟨Try.f195.name, by decide, Try.func195.trans (congrArg some (by kernel_rfl))⟩
  f15 := Try.func196.trans (congrArg some (by kernel_rfl))
  f20 := ⟨Try.f244.name, by decide, Try.func244.trans (congrArg some (by kernel_rfl))⟩
  f21 := ⟨Try.f245.name, by decide, Try.func245.trans (congrArg some (by kernel_rfl))⟩
  f22 := ⟨Try.f246.name, by decide, Try.func246.trans (congrArg some (by kernel_rfl))⟩
  f23 := ⟨Try.f247.name, by decide, Try.func247.trans (congrArg some (by kernel_rfl))⟩
  f24 := ⟨Try.f248.name, by decide, Try.func248.trans (congrArg some (by kernel_rfl))⟩
  f25 := ⟨Try.f249.name, by decide, Try.func249.trans (congrArg some (by kernel_rfl))⟩
  f26 := ⟨Try.f250.name, by decide, Try.func250.trans (congrArg some (by kernel_rfl))⟩
  f27 := ⟨Try.f251.name, by decide, Try.func251.trans (congrArg some (by kernel_rfl))⟩
  f28 := Try.func252.trans (congrArg some (by kernel_rfl))
  f29 := Try.func253.trans (congrArg some (by kernel_rfl))
  f46 := ⟨Try.f298.name, by decide, Try.func298.trans (congrArg some (by kernel_rfl))⟩
  f47 := Try.func299.trans (congrArg some (by kernel_rfl))
  f48 := Try.func300.trans (congrArg some (by kernel_rfl))
  f49 := ⟨Try.f301.name, by decide, Try.func301.trans (congrArg some (by kernel_rfl))⟩
  f50 := ⟨Try.f302.name, by decide, Try.func302.trans (congrArg some (by kernel_rfl))⟩
  f57 := ⟨Try.f322.name, by decide, Try.func322.trans (congrArg some (by kernel_rfl))⟩
  t0 := Try.underlying0
  a0 := Try.isAgg0
  z0 := Try.sizeOf0
  v0 := Try.zeroValue0
  t3 := Try.underlying3
  a3 := Try.isAgg3
  z3 := Try.sizeOf3
  v3 := Try.zeroValue3
  t4 := Try.underlying4
  a4 := Try.isAgg4
  z4 := Try.sizeOf4
  v4 := Try.zeroValue4
  t5 := Try.underlying5
  a5 := Try.isAgg5
  z5 := Try.sizeOf5
  v5 := Try.zeroValue5
  t9 := Try.underlying9
  a9 := Try.isAgg9
  z9 := Try.sizeOf9
  v9 := Try.zeroValue9
  t22 := Try.underlying25
  a22 := Try.isAgg25
  z22 := Try.sizeOf25
  v22 := Try.zeroValue25
  t25 := Try.underlying157
  a25 := Try.isAgg157
  z25 := Try.sizeOf157
  v25 := Try.zeroValue157
  t39 := Try.underlying262
  a39 := Try.isAgg262
  z39 := Try.sizeOf262
  v39 := Try.zeroValue262
  t45 := Try.underlying334
  a45 := Try.isAgg334
  z45 := Try.sizeOf334
  v45 := Try.zeroValue334
  t46 := Try.underlying335
  a46 := Try.isAgg335
  z46 := Try.sizeOf335
  v46 := Try.zeroValue335
  t50 := Try.underlying34
  a50 := Try.isAgg34
  z50 := Try.sizeOf34
  v50 := Try.zeroValue34
  t53 := Try.underlying341
  a53 := Try.isAgg341
  z53 := Try.sizeOf341
  v53 := Try.zeroValue341
  t55 := Try.underlying343
  a55 := Try.isAgg343
  z55 := Try.sizeOf343
  v55 := Try.zeroValue343
  t66 := Try.underlying385
  a66 := Try.isAgg385
  z66 := Try.sizeOf385
  v66 := Try.zeroValue385
  t70 := Try.underlying389
  a70 := Try.isAgg389
  z70 := Try.sizeOf389
  v70 := Try.zeroValue389
  t76 := Try.underlying412
  a76 := Try.isAgg412
  z76 := Try.sizeOf412
  v76 := Try.zeroValue412
  t77 := Try.underlying413
  a77 := Try.isAgg413
  z77 := Try.sizeOf413
  v77 := Try.zeroValue413
theorem byStamp_walk (x y : PM.Wr) (W : World) : Calls Try.prog 100 #[.agg (PM.encW x).toArray, .agg (PM.encW y).toArray] W fun e w' => e = .returned (.int .i64 (PM.cmpW x y)) ∧ ∃ q os', w' = grow (W.drewN q) os' := by
  have b1 := x.1.isLt
  have b2 := y.1.isLt
  unfold PM.encW PM.cmpW
  generalize hx : ((x.1 : Nat) : Int) = a1
  generalize hy : ((y.1 : Nat) : Int) = b1'
  generalize x.2.1.1 = a2
  generalize x.2.2.1.1 = a3
  generalize y.2.1.1 = c2
  generalize y.2.2.1.1 = c3
  have e : IntKind.i64.wrap (a1 - b1') = a1 - b1' := IntWalk.i64_in _ (by omega)
  rw [← e, IntWalk.i64_left]
  clear hx hy e b1 b2
  go_enter Try.func100, Try.ntmps100
  go_wp2
  all_goals
    go_ret
    exact ⟨rfl, 0, _, by rw [alloc_eq_grow, alloc_eq_grow, grow_grow]; rfl⟩
theorem slices_SortFunc___impl_Wrote_impl_Wrote__g {cx : PM.Cx} (h : PM.shAK cx (.rows 33) = some [.int .i64, .int .i64, .sl 31] := by rfl) : PM.GOk Try.prog cx 99 ⟨[], fun _ _ => none, some (PM.spSrt 100 (slices_SortFunc___impl_Wrote_impl_Wrote__w (slices_SortFunc___impl_Wrote_impl_Wrote_ PM.std)))⟩ := by
  refine PM.GOk.ofS (PM.FnIs.of Try.func99 (by kernel_rfl) (by kernel_rfl)).enter (PM.spSrt_ok (PM.sortW_rows (ρ := sortWrote_ren) sortWrote Try.isAgg33 Try.sizeOf33 (PM.FnIs.of Try.func100 (by kernel_rfl) (by kernel_rfl)).enter byStamp_walk (fun w => ?_) h (fun ds k r hk => ?_)))
  · refine (AnyF.slices_SortFunc_none sortWrote none 0 _ w).mono fun e w' hq => ?_
    obtain ⟨rfl, rfl⟩ := hq
    exact ⟨rfl, Below.refl _ _⟩
  · unfold slices_SortFunc___impl_Wrote_impl_Wrote__w at hk
    split at hk
    · rename_i s
      exact ⟨s, rfl, hk⟩
    · cases hk
end X
