/- Models of the functions, or plain laws about them; each theorem states its own conditions. -/
import Derived.Test.YtnkgcegeinemjaaL3
import Derived.Test.YtnkgcegeinemjaaSrt
import Derived.Test.YtnkgcegeinemjaaProg
import Derived.ProofKit
import Derived.WalkKit
import Derived.Below
import Derived.KernelRfl
set_option linter.unusedVariables false
set_option linter.unusedSimpArgs false
open Go Go.Proofs Go.Sort
namespace X
/-! The library's sort and its DeleteFunc at rows of three numbers: their kinds. -/
abbrev slices_SortFunc___impl_Hold_impl_Hold__T := (List (List Int)) → ((List (List Int)) → PM.R) → PM.R
def slices_SortFunc___impl_Hold_impl_Hold__w (c : slices_SortFunc___impl_Hold_impl_Hold__T) (ds : List PM.V) (k : PM.V → PM.R) : PM.R :=
  match ds with
  | [.arr (.vecs 73 3 s), .func 111 []] => c s (fun o0 => k (.tup [.arr (.vecs 73 3 o0)]))
  | _ => none
abbrev slices_DeleteFunc___impl_Hold_impl_Hold__T := (List (List Int)) → (Int) → ((List (List Int)) → PM.R) → PM.R
def slices_DeleteFunc___impl_Hold_impl_Hold__w (c : slices_DeleteFunc___impl_Hold_impl_Hold__T) (ds : List PM.V) (k : PM.V → PM.R) : PM.R :=
  match ds with
  | [.arr (.vecs 73 3 s), .int .i64 who] => c s who (fun r0 => k (.arr (.vecs 73 3 r0)))
  | _ => none
def sortHold_ren : Go.Shelf.Ren := ⟨fun | 6 => 116 | 15 => 162 | 14 => 161 | 28 => 175 | 29 => 176 | 20 => 167 | 21 => 168 | 22 => 169 | 23 => 170 | 24 => 171 | 25 => 172 | 26 => 173 | 27 => 174 | 46 => 178 | 47 => 179 | 48 => 180 | 49 => 181 | 50 => 182 | 57 => 183 | n => n, fun | 22 => 53 | 24 => 73 | 25 => 125 | 3 => 3 | 39 => 163 | 0 => 0 | 53 => 175 | 55 => 177 | 4 => 4 | 46 => 169 | 45 => 168 | 50 => 104 | 5 => 5 | 9 => 9 | 66 => 178 | 70 => 182 | 76 => 184 | 77 => 185 | n => n, fun | n => n⟩
theorem sortHold : Go.Proofs.SlLaysF0.n6 Try.prog sortHold_ren where
  mixed := by kernel_rfl
  f6 := ⟨Try.f116.name, by decide, Try.func116.trans (congrArg some (by kernel_rfl))⟩
  f14 := ⟨Try.f161.name, by decide, Try.func161.trans (congrArg some (by kernel_rfl))⟩
  f15 := Try.func162.trans (congrArg some (by kernel_rfl))
  f20 := ⟨Try.f167.name, by decide, Try.func167.trans (congrArg some (by kernel_rfl))⟩
  f21 := ⟨Try.f168.name, by decide, Try.func168.trans (congrArg some (by kernel_rfl))⟩
  f22 := ⟨Try.f169.name, by decide, Try.func169.trans (congrArg some (by kernel_rfl))⟩
  f23 := ⟨Try.f170.name, by decide, Try.func170.trans (congrArg some (by kernel_rfl))⟩
  f24 := ⟨Try.f171.name, by decide, Try.func171.trans (congrArg some (by kernel_rfl))⟩
  f25 := ⟨Try.f172.name, by decide, Try.func172.trans (congrArg some (by kernel_rfl))⟩
  f26 := ⟨Try.f173.name, by decide, Try.func173.trans (congrArg some (by kernel_rfl))⟩
  f27 := ⟨Try.f174.name, by decide, Try.func174.trans (congrArg some (by kernel_rfl))⟩
  f28 := Try.func175.trans (congrArg some (by kernel_rfl))
  f29 := Try.func176.trans (congrArg some (by kernel_rfl))
  f46 := ⟨Try.f178.name, by decide, Try.func178.trans (congrArg some (by kernel_rfl))⟩
  f47 := Try.func179.trans (congrArg some (by kernel_rfl))
  f48 := Try.func180.trans (congrArg some (by kernel_rfl))
  f49 := ⟨Try.f181.name, by decide, Try.func181.trans (congrArg some (by kernel_rfl))⟩
  f50 := ⟨Try.f182.name, by decide, Try.func182.trans (congrArg some (by kernel_rfl))⟩
  f57 := ⟨Try.f183.name, by decide, Try.func183.trans (congrArg some (by kernel_rfl))⟩
  t0 := Try.underlying0
  a0 := Try.isAgg0
  z0 := Try.sizeOf0
  v0 := Try.zeroValue0
  t3 := Try.underlying3
  a3 := Try.isAgg3
  z3 := Try.sizeOf3
  v3 := Try.zeroValue3
  t4 := Try.underlying4
  a4 := Try.isAgg4
  z4 := Try.sizeOf4
  v4 := Try.zeroValue4
  t5 := Try.underlying5
  a5 := Try.isAgg5
  z5 := Try.sizeOf5
  v5 := Try.zeroValue5
  t9 := Try.underlying9
  a9 := Try.isAgg9
  z9 := Try.sizeOf9
  v9 := Try.zeroValue9
  t22 := Try.underlying53
  a22 := Try.isAgg53
  z22 := Try.sizeOf53
  v22 := Try.zeroValue53
  t25 := Try.underlying125
  a25 := Try.isAgg125
  z25 := Try.sizeOf125
  v25 := Try.zeroValue125
  t39 := Try.underlying163
  a39 := Try.isAgg163
  z39 := Try.sizeOf163
  v39 := Try.zeroValue163
  t45 := Try.underlying168
  a45 := Try.isAgg168
  z45 := Try.sizeOf168
  v45 := Try.zeroValue168
  t46 := Try.underlying169
  a46 := Try.isAgg169
  z46 := Try.sizeOf169
  v46 := Try.zeroValue169
  t50 := Try.underlying104
  a50 := Try.isAgg104
  z50 := Try.sizeOf104
  v50 := Try.zeroValue104
  t53 := Try.underlying175
  a53 := Try.isAgg175
  z53 := Try.sizeOf175
  v53 := Try.zeroValue175
  t55 := Try.underlying177
  a55 := Try.isAgg177
  z55 := Try.sizeOf177
  v55 := Try.zeroValue177
  t66 := Try.underlying178
  a66 := Try.isAgg178
  z66 := Try.sizeOf178
  v66 := Try.zeroValue178
  t70 := Try.underlying182
  a70 := Try.isAgg182
  z70 := Try.sizeOf182
  v70 := Try.zeroValue182
  t76 := Try.underlying184
  a76 := Try.isAgg184
  z76 := Try.sizeOf184
  v76 := Try.zeroValue184
  t77 := Try.underlying185
  a77 := Try.isAgg185
  z77 := Try.sizeOf185
  v77 := Try.zeroValue185
theorem cmp_walk_eq (x y : PM.Hd) (W : World) (hh : (((x.2.1 : Nat) : Int) == ((y.2.1 : Nat) : Int)) = true) : Calls Try.prog 111 #[.agg (PM.encH x).toArray, .agg (PM.encH y).toArray] W fun e w' => e = .returned (.int .i64 (IntKind.i64.wrap (((x.1 : Nat) : Int) - ((y.1 : Nat) : Int)))) ∧ ∃ q os', w' = grow (W.drewN q) os' := by
  unfold PM.encH
  generalize ((x.1 : Nat) : Int) = a1 at hh ⊢
  generalize ((x.2.1 : Nat) : Int) = a2 at hh ⊢
  generalize x.2.2 = a3
  generalize ((y.1 : Nat) : Int) = b1 at hh ⊢
  generalize ((y.2.1 : Nat) : Int) = b2 at hh ⊢
  generalize y.2.2 = b3
  rw [IntWalk.i64_left]
  go_enter Try.func111, Try.ntmps111
  go_wp2
  all_goals
    go_ret
    exact ⟨rfl, 0, _, by rw [alloc_eq_grow, alloc_eq_grow, grow_grow]; rfl⟩
theorem cmp_walk_ne (x y : PM.Hd) (W : World) (hh : (((x.2.1 : Nat) : Int) == ((y.2.1 : Nat) : Int)) = false) : Calls Try.prog 111 #[.agg (PM.encH x).toArray, .agg (PM.encH y).toArray] W fun e w' => e = .returned (.int .i64 (IntKind.i64.wrap (((x.2.1 : Nat) : Int) - ((y.2.1 : Nat) : Int)))) ∧ ∃ q os', w' = grow (W.drewN q) os' := by
  unfold PM.encH
  generalize ((x.1 : Nat) : Int) = a1
  generalize ((x.2.1 : Nat) : Int) = a2 at hh ⊢
  generalize x.2.2 = a3
  generalize ((y.1 : Nat) : Int) = b1
  generalize ((y.2.1 : Nat) : Int) = b2 at hh ⊢
  generalize y.2.2 = b3
  rw [IntWalk.i64_left]
  go_enter Try.func111, Try.ntmps111
  go_wp2
  all_goals
    go_ret
    exact ⟨rfl, 0, _, by rw [alloc_eq_grow, alloc_eq_grow, grow_grow]; rfl⟩
theorem cmp_walk (x y : PM.Hd) (W : World) : Calls Try.prog 111 #[.agg (PM.encH x).toArray, .agg (PM.encH y).toArray] W fun e w' => e = .returned (.int .i64 (PM.cmpH x y)) ∧ ∃ q os', w' = grow (W.drewN q) os' := by
  have b1 := x.1.isLt
  have b2 := x.2.1.isLt
  have b3 := y.1.isLt
  have b4 := y.2.1.isLt
  unfold PM.cmpH
  by_cases h : x.2.1 = y.2.1
  · rw [if_pos h]
    have := cmp_walk_eq x y W (by rw [h]; exact beq_self_eq_true _)
    rwa [PM.i64_wrap (n := ((x.1 : Nat) : Int) - ((y.1 : Nat) : Int)) (by omega) (by omega)] at this
  · rw [if_neg h]
    have := cmp_walk_ne x y W (beq_eq_false_iff_ne.2 fun e => h (Fin.ext (by omega)))
    rwa [PM.i64_wrap (n := ((x.2.1 : Nat) : Int) - ((y.2.1 : Nat) : Int)) (by omega) (by omega)] at this
noncomputable def slices_SortFunc___impl_Hold_impl_Hold_ (A : PM.Prims) : slices_SortFunc___impl_Hold_impl_Hold__T := PM.srtK
theorem slices_SortFunc___impl_Hold_impl_Hold__g {cx : PM.Cx} : PM.GOk Try.prog cx 116 ⟨[true, false], slices_SortFunc___impl_Hold_impl_Hold__w (slices_SortFunc___impl_Hold_impl_Hold_ PM.std), none⟩ := by
  refine PM.sortH_gok (ρ := sortHold_ren) sortHold Try.isAgg73 Try.sizeOf73 (g := 111) (PM.FnIs.of Try.func111 (by kernel_rfl) (by kernel_rfl)).enter (fun x y W => cmp_walk x y W) (PM.FnIs.of Try.func116 (by kernel_rfl) (by kernel_rfl)).enter (t := 73) (fun ds k r h => ?_)
  unfold slices_SortFunc___impl_Hold_impl_Hold__w at h
  split at h
  · rename_i s
    exact ⟨s, rfl, h⟩
  · cases h
end X
