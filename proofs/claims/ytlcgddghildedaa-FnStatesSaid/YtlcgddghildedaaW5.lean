/- Models of the functions, or plain laws about them; each theorem states its own conditions. -/
import Derived.Test.YtlcgddghildedaaSpCon
import Derived.Test.YtlcgddghildedaaProg
import Derived.Shelf.SlicesQ.IndexFunc
import Derived.ProofKit
import Derived.WalkKit
import Derived.Below
import Derived.KernelRfl
set_option linter.unusedVariables false
set_option linter.unusedSimpArgs false
open Go Go.Proofs Go.Sort Go.RowKit Go.Lib
namespace X
/-! The library's ContainsFunc with a predicate that compares one number. -/
abbrev slices_ContainsFunc___impl_Wrote_impl_Wrote__T := (List (List PM.C)) → (Int) → ((Bool) → PM.R) → PM.R
def slices_ContainsFunc___impl_Wrote_impl_Wrote__w (c : slices_ContainsFunc___impl_Wrote_impl_Wrote__T) (ds : List PM.V) (k : PM.V → PM.R) : PM.R :=
  match ds with
  | [.arr (.rows 33 s), .int .i64 st] => c s st (fun r0 => k (.bool r0))
  | _ => none
def slices_ContainsFunc___impl_Wrote_impl_Wrote_ (A : PM.Prims) : slices_ContainsFunc___impl_Wrote_impl_Wrote__T := fun l st k =>
  if l.length ≤ 2147483648 then k ((List.range l.length).any fun i => PM.asInt (PM.cOf l i 0) == st) else none
def conWrote_ren : Go.Shelf.Ren := ⟨fun | 8 => 136 | 6 => 211 | n => n, fun | 22 => 25 | 23 => 33 | 25 => 199 | 4 => 4 | 3 => 3 | 0 => 0 | n => n, fun | n => n⟩
theorem conWrote : Go.Proofs.SlLaysH0.n8 Try.prog conWrote_ren where
  mixed := by kernel_rfl
  f6 := ⟨Try.f211.name, by decide, Try.func211.trans (congrArg some (by kernel_rfl))⟩
  f8 := ⟨Try.f136.name, by decide, Try.func136.trans (congrArg some (by kernel_rfl))⟩
  t0 := Try.underlying0
  a0 := Try.isAgg0
  z0 := Try.sizeOf0
  v0 := Try.zeroValue0
  t3 := Try.underlying3
  a3 := Try.isAgg3
  z3 := Try.sizeOf3
  v3 := Try.zeroValue3
  t4 := Try.underlying4
  a4 := Try.isAgg4
  z4 := Try.sizeOf4
  v4 := Try.zeroValue4
  t22 := Try.underlying25
  a22 := Try.isAgg25
  z22 := Try.sizeOf25
  v22 := Try.zeroValue25
  t25 := Try.underlying199
  a25 := Try.isAgg199
  z25 := Try.sizeOf199
  v25 := Try.zeroValue199
abbrev TV := Int × Value × Value
def encV (x : TV) : List Value := [.int .i64 x.1, x.2.1, x.2.2]
theorem encV_len (x : TV) : (encV x).length = 3 := rfl
theorem con_pred (a st : Int) (v1 v2 : Value) (B : Nat) (W : World) (hc : W.cell? ⟨B, 0, none⟩ = some (.int .i64 st)) (hB : B < W.heap.size) :
    Calls Try.prog 137 #[.agg #[.int .i64 a, v1, v2], .pointer (some ⟨B, 0, none⟩)] W fun e w' => e = .returned (.bool (a == st)) ∧ ∃ q os', w' = grow (W.drewN q) os' := by
  have hne : B ≠ W.heap.size := by omega
  go_enter Try.func137, Try.ntmps137
  go_wp2
  all_goals
    go_ret
    exact ⟨by simp_all, 0, _, by rw [alloc_eq_grow]; rfl⟩
theorem con_walk (st : Int) (blk off cap B : Nat) (zs : List TV) (w : World) (hc : ∀ j, j < zs.length → ∀ i v, (encV zs[j]!)[i]? = some v → w.cell? ⟨blk, off + j * 3 + i, none⟩ = some v) (hblk : blk < w.heap.size) (hB : w.cell? ⟨B, 0, none⟩ = some (.int .i64 st)) (hBs : B < w.heap.size) (hsz : zs.length ≤ 2147483648) :
    Calls Try.prog 136 #[.slice (some ⟨blk, off, none⟩) zs.length cap, .func (.func 137) #[] #[.pointer (some ⟨B, 0, none⟩)]] w fun e w' => e = .returned (.bool (zs.any fun x => x.1 == st)) ∧ Below w.heap.size w w' := by
  have eg : ∀ args w, (callFunc 137 args).run Try.prog w = .ok (.enter 137 args) w := enters_of Try.func137 (by kernel_rfl) rfl
  have h := AnyQ.slices_ContainsFunc (P := Try.prog) (ρ := conWrote_ren) conWrote 3 Try.isAgg33 Try.sizeOf33 encV encV_len (fun x => x.1 == st) 137 #[.pointer (some ⟨B, 0, none⟩)] eg blk off zs.length cap zs w
    (fun W x hb => (con_pred x.1 st x.2.1 x.2.2 B W (by rw [hb.cell (p := ⟨B, 0, none⟩) hBs]; exact hB) (Nat.lt_of_lt_of_le hBs hb.size)).mono fun e w' hq => by
      obtain ⟨rfl, q, os', rfl⟩ := hq
      refine ⟨rfl, hb.trans ⟨rfl, rfl, rfl, by rw [size_grow]; exact Nat.le_add_right _ _, fun k hk => ?_⟩⟩
      exact heap_grow_old _ _ (Nat.lt_of_lt_of_le hk hb.size))
    (Nat.le_refl _) (by omega) hblk hc
  rw [List.take_length] at h
  exact h
theorem idxW_nil (base : Option Addr) (cap c : Nat) (lb : Array Value) (w : World) : Calls Try.prog 211 #[.slice base 0 cap, .func (.func c) #[] lb] w fun e w' => e = .returned (.int .i64 (-1)) ∧ RowKit.Below w.heap.size w w' := by
  go_enter Try.func211, Try.ntmps211
  go_wp2
  go_loopg [5, 8] 0 (fun gg _ s8 wr => s8 = .int .i64 0 ∧ Aside (RowKit.Below w.heap.size w wr))
  case atStart => exact ⟨rfl, Below.refl _ w⟩
  case round =>
    obtain ⟨rfl, BW⟩ := hrel
    go_wp2
    go_ret
    exact ⟨rfl, BW.out⟩
theorem conW_nil (base : Option Addr) (cap c : Nat) (lb : Array Value) (w : World) : Calls Try.prog 136 #[.slice base 0 cap, .func (.func c) #[] lb] w fun e w' => e = .returned (.bool false) ∧ RowKit.Below w.heap.size w w' := by
  have h := idxW_nil base cap c lb w
  go_enter Try.func136, Try.ntmps136
  go_wp2_with (go_at_call 211; refine h.mono ?_; rintro e w' ⟨rfl, hb1⟩)
  go_ret
  exact ⟨rfl, hb1⟩
theorem con_ok {cx : PM.Cx} {u : TypeId} (hsh : PM.shAK cx (.rows 33) = some [.int .i64, .int .i64, .sl u]) : PM.ConOk Try.prog cx 136 137 (slices_ContainsFunc___impl_Wrote_impl_Wrote__w (slices_ContainsFunc___impl_Wrote_impl_Wrote_ PM.std)) := by
  intro a st k r h
  unfold slices_ContainsFunc___impl_Wrote_impl_Wrote__w at h
  split at h
  case h_2 => cases h
  rename_i l st' heq
  simp only [List.cons.injEq, PM.V.arr.injEq, PM.V.int.injEq, true_and, and_true] at heq
  obtain ⟨rfl, rfl⟩ := heq
  unfold slices_ContainsFunc___impl_Wrote_impl_Wrote_ at h
  split at h
  case isFalse => cases h
  rename_i hlen
  refine ⟨_, h, fun w v B hA hB => ?_⟩
  have hBs : B < w.heap.size := World.block_lt_of_cell? w ⟨B, 0, none⟩ hB
  obtain ⟨sh, h1, h2, h3⟩ := hA
  have h1 : PM.shAK cx (.rows 33) = some sh := h1
  rw [hsh] at h1
  cases h1
  rcases h3 with ⟨hn, base, cap, rfl⟩ | ⟨ad, cap, f, rfl, hs, hcap, hb, hcell, hcv⟩
  · have hl : l = [] := hn
    subst hl
    exact conW_nil base cap 137 _ w
  · obtain ⟨blk, off, spot⟩ := ad
    simp only at hs
    subst hs
    have hrl : PM.rowsOf (.rows 33 l) = l := rfl
    rw [hrl] at hcell hcv ⊢
    have f0 : ∀ i, i < l.length → f i 0 = .int .i64 (PM.asInt (PM.cOf l i 0)) := fun i hi => by
      have hv : PM.CellV cx w (fun b => b < w.heap.size) (.int .i64) (PM.cOf l i 0) (f i 0) := hcv i 0 hi (by simp)
      generalize f i 0 = v at hv
      cases hv
      rfl
    generalize hzs : ((List.range l.length).map fun i => ((PM.asInt (PM.cOf l i 0), f i 1, f i 2) : TV)) = zs
    have hzl : zs.length = l.length := by rw [← hzs]; simp
    have hz : ∀ j, j < l.length → zs[j]! = (PM.asInt (PM.cOf l j 0), f j 1, f j 2) := fun j hj => by
      rw [getElem!_pos zs j (by omega)]
      simp [← hzs]
    have hany : zs.any (fun x => x.1 == st) = (List.range l.length).any fun i => PM.asInt (PM.cOf l i 0) == st := by
      rw [← hzs, List.any_map]; rfl
    have hw := con_walk st blk off cap B zs w (fun j hj i v hi => by
      rw [hzl] at hj
      rw [hz j hj] at hi
      have hlt : i < 3 := by
        rcases Nat.lt_or_ge i 3 with h | h
        · exact h
        · rw [List.getElem?_eq_none (by simpa [encV] using h)] at hi; cases hi
      have hcc := hcell j i hj (by simpa using hlt)
      have e : off + (j * [PM.K.int IntKind.i64, .int .i64, .sl u].length + i) = off + j * 3 + i := by simp; omega
      rw [e] at hcc
      rw [hcc]
      match i, hlt with
      | 0, _ => rw [f0 j hj]; exact hi
      | 1, _ => exact hi
      | 2, _ => exact hi) hb hB hBs (by omega)
    rw [hzl, hany] at hw
    exact hw
theorem slices_ContainsFunc___impl_Wrote_impl_Wrote__g {cx : PM.Cx} (h : PM.shAK cx (.rows 33) = some [.int .i64, .int .i64, .sl 31] := by rfl) : PM.GOk Try.prog cx 136 ⟨[], fun _ _ => none, some (PM.spCon 137 (slices_ContainsFunc___impl_Wrote_impl_Wrote__w (slices_ContainsFunc___impl_Wrote_impl_Wrote_ PM.std)))⟩ :=
  PM.GOk.ofS (PM.FnIs.of Try.func136 (by kernel_rfl) (by kernel_rfl)).enter (PM.spCon_ok (con_ok h))
end X
